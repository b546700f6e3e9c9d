/- Part 5 of this claim's texts: walks and plain laws. -/
import Derived.Test.YtejjjijaojkohaaRows
import Derived.Test.YtejjjijaojkohaaGP4
import Derived.Deep.CutRange
import Derived.Shelf.Sort.Plain
import Derived.Shelf.Slices.In.SortNone
import Derived.Sort.OwnSortedInts
import Derived.Test.YtejjjijaojkohaaProg
import Derived.Deep.DrawnRows
import Derived.Test.YtejjjijaojkohaaGP3
import Derived.Test.YtejjjijaojkohaaGP1
import Derived.Deep.RegionHeld3
import Derived.Test.YtejjjijaojkohaaGP2
import Derived.Deep.AppendLies
/- The check of a wiring: the reference's walk. -/
namespace Go.Proofs.Ytejjjijaojkohaa
open Go.RowKit
set_option linter.unusedVariables false
set_option linter.unusedSimpArgs false

set_option maxRecDepth 100000 in
set_option maxHeartbeats 4000000 in
theorem rCheck_any (gs : List Ga) (fs : List Fu) (es : List Fe) (gv fv ev : Value) (w : World) (hz : WSz gs fs es) (h : Wir w w.heap.size gv fv ev gs fs es) :
    Calls Try.prog 42 #[.agg #[gv, fv, ev]] w fun e w' => e = .returned (.int .i64 (chkErr gs fs es)) ∧ Below w.heap.size w w' := by
  have H := hide h
  obtain ⟨A0, cap0, rfl⟩ := Sl.form h.g
  obtain ⟨A1, b1, off1, cap1, rfl, hnc1, hA1, hc1⟩ := h.f
  obtain ⟨cv, hsl, hcy⟩ := h.e
  obtain ⟨A, b, off, cap, rfl, hnc, hA, hc⟩ := hsl
  have HC := hide hc
  have HA := hide hA
  have HC1 := hide hc1
  have HA1 := hide hA1
  have HCY := hide hcy
  have HZ_ := hide hz
  have hg30 := hz.g
  have hf30 := hz.f
  have he30 := hz.e
  clear h hc hA hc1 hA1 hcy hz
  obtain ⟨bg, hbg⟩ : ∃ d, bigB gs fs es = d := ⟨_, rfl⟩
  obtain ⟨tb, htb⟩ : ∃ d, tableB gs = d := ⟨_, rfl⟩
  have HBG := hide hbg
  have HTB := hide htb
  have hcases : (decide ((20 : Int) < (gs.length : Int)) = true ∧ bg = true) ∨ (decide ((20 : Int) < (gs.length : Int)) = false ∧ decide ((20 : Int) < (fs.length : Int)) = true ∧ bg = true) ∨ (decide ((20 : Int) < (gs.length : Int)) = false ∧ decide ((20 : Int) < (fs.length : Int)) = false ∧ decide ((20 : Int) < (es.length : Int)) = bg) := by
    rw [← hbg]
    unfold bigB
    simp only [decide_eq_true_eq, decide_eq_false_iff_not, Bool.or_eq_true]
    by_cases h1 : 20 < gs.length
    · exact .inl ⟨by omega, .inl (.inl h1)⟩
    · by_cases h2 : 20 < fs.length
      · exact .inr (.inl ⟨by omega, by omega, .inl (.inr h2)⟩)
      · refine .inr (.inr ⟨by omega, by omega, ?_⟩)
        rw [show decide (20 < gs.length) = false by simpa using h1, show decide (20 < fs.length) = false by simpa using h2, Bool.false_or, Bool.false_or, decide_eq_decide]
        omega
  clear hbg htb
  go_enter Try.func42, Try.ntmps42
  go_upto_region 1 with (fail)
  generalize hw0 : World.alloc _ _ = w0
  obtain ⟨hb0, hB0, hs0⟩ := alloc1 hw0
  clear hw0
  have hwi : WiAt w0 w.heap.size (.slice A0 gs.length cap0) (.slice A1 fs.length cap1) (.slice A es.length cap) := hb0
  have hl0 : w.heap.size < w0.heap.size := by omega
  clear hs0
  obtain ⟨k0, k1, k2, _⟩ := wi3 hwi (Below.refl _ w0)
  go_cut [21] from 6 to 83 (fun t wc => t = .bool bg ∧ w0 = wc)
  case first =>
    rcases hcases with ⟨h1, rfl⟩ | ⟨h1, h2, rfl⟩ | ⟨h1, h2, h3⟩
    all_goals
      go_wp2_with fail
      go_meet
      case rel => exact ⟨rfl, rfl⟩
  case rest =>
    obtain ⟨rfl, rfl⟩ := hcut
    have HBw := hide hB0
    have HWI := hide hwi
    clear hB0 hwi hb0
    cases bg with
    | true =>
      go_wp2_with fail
      go_ret
      exact ⟨ret_int (by unfold chkErr; rw [HBG.out]; rfl), HBw.out⟩
    | false =>
      have HCE : Hid (chkErr gs fs es = if tb then if fusB fs then if fesB gs fs es then 0 else 71 else 72 else 70) := by show _ = _; unfold chkErr; rw [HBG.out, HTB.out]; rfl
      go_wp2_with fail
      refine (table_any _ gs _ (by unfold maxLen; omega) (H.out.g.below HBw.out |>.more HBw.out.size)).mono ?_
      rw [HTB.out]
      rintro e w1 ⟨rfl, hB1⟩
      have HB1 := hide hB1
      clear hB1 k0 k1 k2
      cases tb with
      | false =>
        go_wp2_with fail
        go_ret
        exact ⟨ret_int (by rw [HCE.out]; rfl), Below.to HBw.out HB1.out (Nat.le_refl _)⟩
      | true =>
        go_wp2_with fail
        go_loopw [3] (fun i wr => ∃ k : Nat, k ≤ fs.length ∧ i = .int .i64 k ∧ Hid (∀ j, j < k → (!(fs.getD j Fu.z).ok) = false) ∧ Hid (Below w1.heap.size w1 wr)) (fun i _ => fs.length - (intOf i).toNat)
        case atStart => exact ⟨0, Nat.zero_le _, rfl, fun j hj => by omega, Below.refl _ _⟩
        case round =>
          obtain ⟨k, hk, rfl, hz, hB⟩ := hrel
          have HBr : Hid (Below w0.heap.size w0 wr) := Below.to HB1.out hB.out (Nat.le_refl _)
          have HBq : Hid (Below w.heap.size w wr) := Below.to HBw.out HBr.out (Nat.le_refl _)
          obtain ⟨k0, k1, k2, _⟩ := wi3 HWI.out HBr.out
          by_cases hlt : k < fs.length
          · obtain ⟨f, HZ, hA1, hbw, h0, h1⟩ := fuAtB HBq.out HA1.out HC1.out hlt
            subst hA1
            cases hok : f.ok
            · have HOK := hide hok
              clear hok
              go_wp2_with (go_at_call 56; refine (fuse_any f _).mono ?_; rw [HOK.out]; rintro e w2 ⟨rfl, hB2⟩)
              go_ret
              exact ⟨ret_int (by rw [HCE.out, show fusB fs = false from by unfold fusB; rw [any_at _ Fu.z fs k hlt (by rw [HZ.out, HOK.out]; rfl)]; rfl]; rfl), Below.to HBq.out hB2 (Nat.le_refl _)⟩
            · have HOK := hide hok
              clear hok
              go_wp2_with (go_at_call 56; refine (fuse_any f _).mono ?_; rw [HOK.out]; rintro e w2 ⟨rfl, hB2⟩)
              go_roundw
              case rel => exact ⟨k + 1, by omega, by go_num, fun j hj => by
                  rcases Nat.lt_or_ge j k with h | h
                  · exact hz.out j h
                  · rw [show j = k from by omega, HZ.out, HOK.out]; rfl, Below.to hB.out hB2 (Nat.le_refl _)⟩
              case measure => simp [intOf]; omega
          · have HFU : Hid (fusB fs = true) := by show _ = _; unfold fusB; rw [any_none _ Fu.z fs (fun j hj => hz.out j (by omega))]; rfl
            have HCE2 : Hid (chkErr gs fs es = if fesB gs fs es then 0 else 71) := by show _ = _; rw [HCE.out, HFU.out]; rfl
            go_wp2_with fail
            clear k0 k1 k2
            obtain ⟨wx, rfl⟩ : ∃ wx : World, wx = wr := ⟨_, rfl⟩
            go_loopw [4, 5] (fun i _ wr => ∃ k : Nat, k ≤ es.length ∧ i = .int .i64 k ∧ Hid (∀ j, j < k → feOk gs fs es j = true) ∧ Hid (Below wx.heap.size wx wr)) (fun i _ _ => es.length - (intOf i).toNat)
            case atStart => exact ⟨0, Nat.zero_le _, rfl, fun j hj => by omega, Below.refl _ _⟩
            case round =>
              obtain ⟨k, hk, rfl, hz, hB⟩ := hrel
              have HBr2 : Hid (Below w0.heap.size w0 wr) := Below.to HBr.out hB.out (Nat.le_refl _)
              have HBq2 : Hid (Below w.heap.size w wr) := Below.to HBw.out HBr2.out (Nat.le_refl _)
              obtain ⟨k0, k1, k2, _⟩ := wi3 HWI.out HBr2.out
              by_cases hlt : k < es.length
              · obtain ⟨f, C, cp, HZ, hA1, hbw, h0, h1, h2, h3, h4, h5, h6, hy⟩ := feAtB HBq2.out HA.out HC.out HCY.out hlt
                subst hA1
                have HN20 : Hid (f.cs.length ≤ 20) := by show _; have := HZ_.out.c k hlt; rw [HZ.out] at this; exact this
                obtain ⟨c1, hb1⟩ : ∃ x, fromB f.par (-1) ((k : Int) - 1) = x := ⟨_, rfl⟩
                obtain ⟨c2, hb2⟩ : ∃ x, fromB f.gauge 0 ((gs.length : Int) - 1) = x := ⟨_, rfl⟩
                obtain ⟨c3, hb3⟩ : ∃ x, fromB f.fuse 0 ((fs.length : Int) - 1) = x := ⟨_, rfl⟩
                obtain ⟨c4, hb4⟩ : ∃ x, needOk f.n f.cs = x := ⟨_, rfl⟩
                have HS : Hid (feOk gs fs es k = (c1 && c2 && c3 && c4)) := by show _ = _; unfold feOk; rw [HZ.out, hb1, hb2, hb3, hb4]
                have HD1 := hide hb1
                have HD2 := hide hb2
                have HD3 := hide hb3
                have HD4 := hide hb4
                clear hb1 hb2 hb3 hb4
                go_upto_region 14 with (fail)
                generalize hw5 : World.alloc _ _ = w5
                obtain ⟨hb5, hB5, hs5⟩ := alloc1 hw5
                clear hw5 h0 h1 h2 h3 h4 h5 h6 k0 k1 k2
                have HB5 := hide hB5
                have HBs : Hid (Below w0.heap.size w0 w5) := Below.to HBr2.out hB5 (Nat.le_refl _)
                obtain ⟨k0, k1, k2, _⟩ := wi3 HWI.out HBs.out
                have m0 := cellOf hb5 0
                have m1 := cellOf hb5 1
                have m2 := cellOf hb5 2
                have m3 := cellOf hb5 3
                have m4 := cellOf hb5 4
                have m5 := cellOf hb5 5
                have m6 := cellOf hb5 6
                have HCY5 : Hid (Cyc w5 w5.heap.size (.slice C f.cs.length cp) f.cs) := Sl.more (Sl.below hy.out ((show Below w.heap.size wr w5 from hB5.mono HBq2.out.size))) (by have := HBq2.out.size; have := hB5.size; omega)
                clear hb5 hB5 hs5
                cases c1
                · go_wp2_with (go_at_call 52; refine (from_any _ _ _ _).mono ?_; (first | rw [HD1.out] | rw [HD2.out] | rw [HD3.out]); rintro e w' ⟨rfl, rfl⟩)
                  go_ret
                  exact ⟨ret_int (by rw [HCE2.out, fesB_at hlt (by rw [HS.out]; rfl)]; rfl), Below.to HBq2.out HB5.out (Nat.le_refl _)⟩
                · cases c2
                  · go_wp2_with (go_at_call 52; refine (from_any _ _ _ _).mono ?_; (first | rw [HD1.out] | rw [HD2.out] | rw [HD3.out]); rintro e w' ⟨rfl, rfl⟩)
                    go_ret
                    exact ⟨ret_int (by rw [HCE2.out, fesB_at hlt (by rw [HS.out]; rfl)]; rfl), Below.to HBq2.out HB5.out (Nat.le_refl _)⟩
                  · cases c3
                    · go_wp2_with (go_at_call 52; refine (from_any _ _ _ _).mono ?_; (first | rw [HD1.out] | rw [HD2.out] | rw [HD3.out]); rintro e w' ⟨rfl, rfl⟩)
                      go_ret
                      exact ⟨ret_int (by rw [HCE2.out, fesB_at hlt (by rw [HS.out]; rfl)]; rfl), Below.to HBq2.out HB5.out (Nat.le_refl _)⟩
                    · cases c4
                      · go_wp2_with (first | (go_at_call 52; refine (from_any _ _ _ _).mono ?_; (first | rw [HD1.out] | rw [HD2.out] | rw [HD3.out]); rintro e w' ⟨rfl, rfl⟩) | (go_at_call 74; refine (rneed_any f.n _ f.cs _ HN20.out HCY5.out).mono ?_; rw [HD4.out]; rintro e w6 ⟨rfl, hB6⟩))
                        go_ret
                        exact ⟨ret_int (by rw [HCE2.out, fesB_at hlt (by rw [HS.out]; rfl)]; rfl), Below.to (Below.to HBq2.out HB5.out (Nat.le_refl _)) hB6 (Nat.le_refl _)⟩
                      · go_wp2_with (first | (go_at_call 52; refine (from_any _ _ _ _).mono ?_; (first | rw [HD1.out] | rw [HD2.out] | rw [HD3.out]); rintro e w' ⟨rfl, rfl⟩) | (go_at_call 74; refine (rneed_any f.n _ f.cs _ HN20.out HCY5.out).mono ?_; rw [HD4.out]; rintro e w6 ⟨rfl, hB6⟩))
                        go_roundw
                        case rel => exact ⟨k + 1, by omega, by go_num, fun j hj => by
                            rcases Nat.lt_or_ge j k with h | h
                            · exact hz.out j h
                            · rw [show j = k from by omega, HS.out]; rfl, Below.to (Below.to hB.out HB5.out (Nat.le_refl _)) hB6 (Nat.le_refl _)⟩
                        case measure => simp [intOf]; omega
              · go_wp2
                go_ret
                exact ⟨ret_int (by rw [HCE2.out, fesB_all (fun j hj => hz.out j (by omega))]; rfl), HBq2.out⟩
end Go.Proofs.Ytejjjijaojkohaa
/- slices.Sort over integers: the shelf's contract at this program, laid by the kit's tool in plain words; over a row of the call's own. -/
namespace Go.Proofs.Ytejjjijaojkohaa
open Go.Shelf
def srtRen : Go.Shelf.Ren := ⟨fun | 189 => 87 | 125 => 107 | 257 => 106 | 128 => 121 | 129 => 122 | 294 => 112 | 295 => 113 | 296 => 114 | 297 => 115 | 298 => 116 | 299 => 117 | 216 => 118 | 300 => 119 | 301 => 120 | 328 => 123 | 329 => 124 | 330 => 125 | 331 => 126 | 332 => 127 | 215 => 111 | 343 => 128 | n => n, fun | 28 => 49 | 3 => 3 | 46 => 135 | 0 => 0 | 51 => 147 | 53 => 149 | 4 => 4 | 183 => 139 | 182 => 138 | 131 => 144 | 5 => 5 | 9 => 9 | 218 => 150 | 222 => 154 | 228 => 156 | 229 => 85 | n => n, fun | n => n⟩
theorem srtLays : Go.Proofs.Lays.n189 Try.prog srtRen := {
  mixed := by kernel_rfl
  f125 := Try.func107.trans (congrArg some (by kernel_rfl))
  f128 := Try.func121.trans (congrArg some (by kernel_rfl))
  f129 := Try.func122.trans (congrArg some (by kernel_rfl))
  f189 := Try.func87.trans (congrArg some (by kernel_rfl))
  f215 := Try.func111.trans (congrArg some (by kernel_rfl))
  f216 := Try.func118.trans (congrArg some (by kernel_rfl))
  f257 := Try.func106.trans (congrArg some (by kernel_rfl))
  f294 := Try.func112.trans (congrArg some (by kernel_rfl))
  f295 := Try.func113.trans (congrArg some (by kernel_rfl))
  f296 := Try.func114.trans (congrArg some (by kernel_rfl))
  f297 := Try.func115.trans (congrArg some (by kernel_rfl))
  f298 := Try.func116.trans (congrArg some (by kernel_rfl))
  f299 := Try.func117.trans (congrArg some (by kernel_rfl))
  f300 := Try.func119.trans (congrArg some (by kernel_rfl))
  f301 := Try.func120.trans (congrArg some (by kernel_rfl))
  f328 := Try.func123.trans (congrArg some (by kernel_rfl))
  f329 := Try.func124.trans (congrArg some (by kernel_rfl))
  f330 := Try.func125.trans (congrArg some (by kernel_rfl))
  f331 := Try.func126.trans (congrArg some (by kernel_rfl))
  f332 := Try.func127.trans (congrArg some (by kernel_rfl))
  f343 := Try.func128.trans (congrArg some (by kernel_rfl))
  t0 := Try.underlying0
  a0 := Try.isAgg0
  z0 := Try.sizeOf0
  v0 := Try.zeroValue0
  t3 := Try.underlying3
  a3 := Try.isAgg3
  z3 := Try.sizeOf3
  v3 := Try.zeroValue3
  t4 := Try.underlying4
  a4 := Try.isAgg4
  z4 := Try.sizeOf4
  v4 := Try.zeroValue4
  t5 := Try.underlying5
  a5 := Try.isAgg5
  z5 := Try.sizeOf5
  v5 := Try.zeroValue5
  t9 := Try.underlying9
  a9 := Try.isAgg9
  z9 := Try.sizeOf9
  v9 := Try.zeroValue9
  t28 := Try.underlying49
  a28 := Try.isAgg49
  z28 := Try.sizeOf49
  v28 := Try.zeroValue49
  t46 := Try.underlying135
  a46 := Try.isAgg135
  z46 := Try.sizeOf135
  v46 := Try.zeroValue135
  t51 := Try.underlying147
  a51 := Try.isAgg147
  z51 := Try.sizeOf147
  v51 := Try.zeroValue147
  t53 := Try.underlying149
  a53 := Try.isAgg149
  z53 := Try.sizeOf149
  v53 := Try.zeroValue149
  t131 := Try.underlying144
  a131 := Try.isAgg144
  z131 := Try.sizeOf144
  v131 := Try.zeroValue144
  t182 := Try.underlying138
  a182 := Try.isAgg138
  z182 := Try.sizeOf138
  v182 := Try.zeroValue138
  t183 := Try.underlying139
  a183 := Try.isAgg139
  z183 := Try.sizeOf139
  v183 := Try.zeroValue139
  t218 := Try.underlying150
  a218 := Try.isAgg150
  z218 := Try.sizeOf150
  v218 := Try.zeroValue150
  t222 := Try.underlying154
  a222 := Try.isAgg154
  z222 := Try.sizeOf154
  v222 := Try.zeroValue154
  t228 := Try.underlying156
  a228 := Try.isAgg156
  z228 := Try.sizeOf156
  v228 := Try.zeroValue156
  t229 := Try.underlying85
  a229 := Try.isAgg85
  z229 := Try.sizeOf85
  v229 := Try.zeroValue85 }
open Go.Sort Go.RowKit in
open Go.Sort Go.RowKit in
theorem sort_ints (blk off cap : Nat) (zs : List Int) (w : World) (hH : Holds (Value.int .i64) w blk off zs.toArray) (hblk : blk < w.heap.size) (hsz : zs.length < 4611686018427387904) :
    Calls Try.prog 87 #[.slice (some ⟨blk, off, none⟩) zs.length cap] w fun e w' =>
      e = .returned (.tuple #[]) ∧ ∃ n os, w' = grow (putRow (Value.int .i64) (Sort.ahead w n) blk off (zs.mergeSort fun x y => decide (x ≤ y)).toArray) os := Any.slices_Sort_int srtLays blk off cap zs w hH hblk hsz
open Go.Sort Go.RowKit in
theorem sort_none (p : Option Addr) (cap : Nat) (w : World) :
    Calls Try.prog 87 #[.slice p 0 cap] w fun e w' => e = .returned (.tuple #[]) ∧ w' = w := Any.slices_Sort_int_none srtLays p cap w
open Go.Sort Go.RowKit in
/-- A row of the call's own, sorted. -/
theorem sort_own (l : List Int) (base : Nat) (v : Value) (w : World) (hl0 : l.length ≤ 1000) (h : w.ownsRow base 3 1 v l.length (l.map (Value.int .i64))) :
    Calls Try.prog 87 #[v] w fun e w' => e = .returned (.tuple #[]) ∧ w'.ownsRow base 3 1 v l.length ((l.mergeSort fun x y => decide (x ≤ y)).map (Value.int .i64)) ∧ (base ≤ w.heap.size → Below base w w') := by
  rcases h.2 with ⟨h0, hl⟩ | ⟨g, cap, cur, rfl, hg, hb, hn, hcap, hcur, ht⟩
  · obtain rfl : l = [] := by
      cases l with
      | nil => rfl
      | cons a b => simp at hl
    subst h0
    refine (sort_none none 0 w).mono ?_
    rintro e w' ⟨rfl, rfl⟩
    exact ⟨rfl, by simpa using h, fun _ => Below.refl _ _⟩
  · have hgl : g < w.heap.size := (Array.getElem?_eq_some_iff.1 hb).1
    refine (sort_ints g 0 cap l w (holds_of_blockI hb (by simpa using ht)) hgl (by omega)).mono ?_
    rintro e w' ⟨rfl, n, os, rfl⟩
    refine ⟨rfl, ownsRow_sortedI (by simp) hg hb hn hcap hcur, fun hbs => ?_⟩
    exact (Below.refl base w).grown (grownBy_sortedI _) hbs (fun k e => by injection e with e; omega)
end Go.Proofs.Ytejjjijaojkohaa
/- The check of a wiring: the program's walk. -/
namespace Go.Proofs.Ytejjjijaojkohaa
open Go.RowKit
set_option linter.unusedVariables false
set_option linter.unusedSimpArgs false

set_option maxRecDepth 100000 in
set_option maxHeartbeats 4000000 in
theorem Check_any (gs : List Ga) (fs : List Fu) (es : List Fe) (gv fv ev : Value) (w : World) (hz : WSz gs fs es) (h : Wir w w.heap.size gv fv ev gs fs es) :
    Calls Try.prog 41 #[.agg #[gv, fv, ev]] w fun e w' => e = .returned (.int .i64 (chkErr gs fs es)) ∧ Below w.heap.size w w' := by
  have H := hide h
  obtain ⟨A0, cap0, rfl⟩ := Sl.form h.g
  obtain ⟨A1, cap1, rfl⟩ := Sl.form h.f
  obtain ⟨cv, hsl, hcy⟩ := h.e
  obtain ⟨A, b, off, cap, rfl, hnc, hA, hc⟩ := hsl
  have HC := hide hc
  have HA := hide hA
  have HCY := hide hcy
  have HZ_ := hide hz
  have hg30 := hz.g
  have hf30 := hz.f
  have he30 := hz.e
  clear h hc hA hcy hz
  obtain ⟨bg, hbg⟩ : ∃ d, bigB gs fs es = d := ⟨_, rfl⟩
  obtain ⟨y, hy⟩ : ∃ y, gasErr gs = y := ⟨_, rfl⟩
  obtain ⟨z, hz⟩ : ∃ z, fusErr fs = z := ⟨_, rfl⟩
  obtain ⟨x, hx⟩ : ∃ x : Int, (if bg then (2 : Int) else 0) = x := ⟨_, rfl⟩
  obtain ⟨u, hu⟩ : ∃ u : Int, (if x = 0 then if y = 0 then z else y else x) = u := ⟨_, rfl⟩
  have hE0 : u = 0 → bg = false ∧ tableB gs = true ∧ fusB fs = true ∧ chkErr gs fs es = (if fesB gs fs es then 0 else 71) := by
    intro h0
    rw [← hu, ← hx, ← hy, ← hz] at h0
    unfold chkErr
    rw [hbg]
    unfold gasErr fusErr at h0
    cases bg <;> cases ht : tableB gs <;> cases hn2 : fusB fs <;> simp [ht, hn2] at h0 ⊢
  have hE1 : u ≠ 0 → chkErr gs fs es = u := by
    intro h0
    rw [← hu, ← hx, ← hy, ← hz] at h0 ⊢
    unfold chkErr
    rw [hbg]
    unfold gasErr fusErr at h0 ⊢
    cases bg <;> cases ht : tableB gs <;> cases hn2 : fusB fs <;> simp [ht, hn2] at h0 ⊢
  have HE0 := hide hE0
  have HE1 := hide hE1
  have HX := hide hx
  have HY := hide hy
  have HZ2 := hide hz
  have HU := hide hu
  clear hx hy hz hu hE0 hE1
  have hcases : (decide ((20 : Int) < (gs.length : Int)) = true ∧ bg = true) ∨ (decide ((20 : Int) < (gs.length : Int)) = false ∧ decide ((20 : Int) < (fs.length : Int)) = true ∧ bg = true) ∨ (decide ((20 : Int) < (gs.length : Int)) = false ∧ decide ((20 : Int) < (fs.length : Int)) = false ∧ decide ((20 : Int) < (es.length : Int)) = bg) := by
    rw [← hbg]
    unfold bigB
    simp only [decide_eq_true_eq, decide_eq_false_iff_not, Bool.or_eq_true]
    by_cases h1 : 20 < gs.length
    · exact .inl ⟨by omega, .inl (.inl h1)⟩
    · by_cases h2 : 20 < fs.length
      · exact .inr (.inl ⟨by omega, by omega, .inl (.inr h2)⟩)
      · refine .inr (.inr ⟨by omega, by omega, ?_⟩)
        rw [show decide (20 < gs.length) = false by simpa using h1, show decide (20 < fs.length) = false by simpa using h2, Bool.false_or, Bool.false_or, decide_eq_decide]
        omega
  clear hbg
  go_enter Try.func41, Try.ntmps41
  go_upto_region 1 with (fail)
  generalize hw0 : World.alloc _ _ = w0
  obtain ⟨hb0, hB0, hs0⟩ := alloc1 hw0
  clear hw0
  have hwi : WiAt w0 w.heap.size (.slice A0 gs.length cap0) (.slice A1 fs.length cap1) (.slice A es.length cap) := hb0
  have hl0 : w.heap.size < w0.heap.size := by omega
  clear hs0
  obtain ⟨k0, k1, k2, _⟩ := wi3 hwi (Below.refl _ w0)
  go_cut [3] from 4 to 76 (fun t wc => t = .bool bg ∧ w0 = wc)
  case first =>
    rcases hcases with ⟨h1, rfl⟩ | ⟨h1, h2, rfl⟩ | ⟨h1, h2, h3⟩
    all_goals
      go_wp2_with fail
      go_meet
      case rel => exact ⟨rfl, rfl⟩
  case rest =>
    obtain ⟨rfl, rfl⟩ := hcut
    go_wp2_with fail
    refine wp_region_held_drew (S := (fun w' => Below w0.heap.size w0 w')) (by kernel_rfl) ?_ (fun hHeld => ?_)
    · try dsimp only
      exact (by repeat (first | exact Below.refl _ _ | assumption | refine Below.drew ?_ | refine Below.drewN ?_ _ | refine Below.allocT ?_ (Nat.le_refl _) _ | refine Below.setCell ?_ (by simp <;> omega) _ | refine Below.to ?_ (by assumption) (Nat.le_refl _)))
    refine wpAnyH_take (i := 0) (v := ?v1_0) rfl (by kernel_rfl) (by kernel_rfl) (by kernel_rfl) (fun _ _ _ h => h) (Or.inl ⟨by rfl, ?y1_0⟩) (by assumption) ?r1_0
    case' y1_0 => (intro w hSw; (try dsimp only at hSw); (try have hlS := HLK.out _ hSw); obtain ⟨hcS, hfS⟩ := bcell hSw; clear hSw; go_simp; try with_reducible rfl)
    try simp only [Act.put, List.getElem_toArray, List.getElem_cons_succ, List.getElem_cons_zero, List.setIfInBounds_toArray, List.set_cons_zero, List.set_cons_succ]
    refine wpAnyH_take (i := 2) (v := ?v1_2) rfl (by kernel_rfl) (by kernel_rfl) (by kernel_rfl) (fun _ _ _ h => h) (Or.inl ⟨by rfl, ?y1_2⟩) (by assumption) ?r1_2
    case' y1_2 => (intro w hSw; (try dsimp only at hSw); (try have hlS := HLK.out _ hSw); obtain ⟨hcS, hfS⟩ := bcell hSw; clear hSw; go_simp; try with_reducible rfl)
    try simp only [Act.put, List.getElem_toArray, List.getElem_cons_succ, List.getElem_cons_zero, List.setIfInBounds_toArray, List.set_cons_zero, List.set_cons_succ]
    refine wpAnyH_take (i := 3) (v := ?v1_3) rfl (by kernel_rfl) (by kernel_rfl) (by kernel_rfl) (fun _ _ _ h => h) (Or.inl ⟨by rfl, ?y1_3⟩) (by assumption) ?r1_3
    case' y1_3 => (intro w hSw; (try dsimp only at hSw); (try have hlS := HLK.out _ hSw); obtain ⟨hcS, hfS⟩ := bcell hSw; clear hSw; go_simp; try with_reducible rfl)
    try simp only [Act.put, List.getElem_toArray, List.getElem_cons_succ, List.getElem_cons_zero, List.setIfInBounds_toArray, List.set_cons_zero, List.set_cons_succ]
    refine wpAnyH_take (i := 5) (v := ?v1_5) rfl (by kernel_rfl) (by kernel_rfl) (by kernel_rfl) (fun _ _ _ h => h) (Or.inl ⟨by rfl, ?y1_5⟩) (by assumption) ?r1_5
    case' y1_5 => (intro w hSw; (try dsimp only at hSw); (try have hlS := HLK.out _ hSw); obtain ⟨hcS, hfS⟩ := bcell hSw; clear hSw; go_simp; try with_reducible rfl)
    try simp only [Act.put, List.getElem_toArray, List.getElem_cons_succ, List.getElem_cons_zero, List.setIfInBounds_toArray, List.set_cons_zero, List.set_cons_succ]
    refine wpAnyH_take (i := 6) (v := ?v1_6) rfl (by kernel_rfl) (by kernel_rfl) (by kernel_rfl) (fun _ _ _ h => h) (Or.inl ⟨by rfl, ?y1_6⟩) (by assumption) ?r1_6
    case' y1_6 => (intro w hSw; (try dsimp only at hSw); (try have hlS := HLK.out _ hSw); obtain ⟨hcS, hfS⟩ := bcell hSw; clear hSw; go_simp; try with_reducible rfl)
    try simp only [Act.put, List.getElem_toArray, List.getElem_cons_succ, List.getElem_cons_zero, List.setIfInBounds_toArray, List.set_cons_zero, List.set_cons_succ]
    refine wpAnyH_ready (rs := [1]) (by kernel_rfl) (by simp) ?_
    refine AllReadyH.cons rfl (fun K hK => ?_) AllReadyH.nil
    go_simp
    (first | (go_at_call 76; refine (many_any _ _).mono ?_; rw [HX.out]; rintro e w1 ⟨rfl, rfl⟩) | (go_at_call 77; refine (checkGauges_any _ gs _ (by unfold maxLen; omega) ((H.out.g.below (by repeat (first | exact Below.refl _ _ | assumption | refine Below.drew ?_ | refine Below.drewN ?_ _ | refine Below.allocT ?_ (Nat.le_refl _) _ | refine Below.setCell ?_ (by simp <;> omega) _ | refine Below.to ?_ (by assumption) (Nat.le_refl _)))).more (Below.size (by repeat (first | exact Below.refl _ _ | assumption | refine Below.drew ?_ | refine Below.drewN ?_ _ | refine Below.allocT ?_ (Nat.le_refl _) _ | refine Below.setCell ?_ (by simp <;> omega) _ | refine Below.to ?_ (by assumption) (Nat.le_refl _)))))).mono ?_; rw [HY.out]; rintro e w2 ⟨rfl, hB2⟩) | (go_at_call 84; refine (checkFuses_any _ fs _ (by unfold maxLen; omega) ((H.out.f.below (by repeat (first | exact Below.refl _ _ | assumption | refine Below.drew ?_ | refine Below.drewN ?_ _ | refine Below.allocT ?_ (Nat.le_refl _) _ | refine Below.setCell ?_ (by simp <;> omega) _ | refine Below.to ?_ (by assumption) (Nat.le_refl _)))).more (Below.size (by repeat (first | exact Below.refl _ _ | assumption | refine Below.drew ?_ | refine Below.drewN ?_ _ | refine Below.allocT ?_ (Nat.le_refl _) _ | refine Below.setCell ?_ (by simp <;> omega) _ | refine Below.to ?_ (by assumption) (Nat.le_refl _)))))).mono ?_; rw [HZ2.out]; rintro e w3 ⟨rfl, hB3⟩) | (go_at_call 58; refine (errors3v _ x y z u _ (by simp) (by simp) (by simp) HU.out).mono ?_; rintro e w4 ⟨rfl, rfl⟩))
    (try dsimp only)
    refine hK.out _ _ ?_ (fun hNext => ?_)
    · try dsimp only
      exact (by repeat (first | exact Below.refl _ _ | assumption | refine Below.drew ?_ | refine Below.drewN ?_ _ | refine Below.allocT ?_ (Nat.le_refl _) _ | refine Below.setCell ?_ (by simp <;> omega) _ | refine Below.to ?_ (by assumption) (Nat.le_refl _)))
    clear hK K hHeld
    have hHeld := hNext
    clear hNext
    (try dsimp only at hHeld)
    try simp only [Act.put, List.getElem_toArray, List.getElem_cons_succ, List.getElem_cons_zero, List.setIfInBounds_toArray, List.set_cons_zero, List.set_cons_succ]
    refine wpAnyH_ready (rs := [4]) (by kernel_rfl) (by simp) ?_
    refine AllReadyH.cons rfl (fun K hK => ?_) AllReadyH.nil
    go_simp
    (first | (go_at_call 76; refine (many_any _ _).mono ?_; rw [HX.out]; rintro e w1 ⟨rfl, rfl⟩) | (go_at_call 77; refine (checkGauges_any _ gs _ (by unfold maxLen; omega) ((H.out.g.below (by repeat (first | exact Below.refl _ _ | assumption | refine Below.drew ?_ | refine Below.drewN ?_ _ | refine Below.allocT ?_ (Nat.le_refl _) _ | refine Below.setCell ?_ (by simp <;> omega) _ | refine Below.to ?_ (by assumption) (Nat.le_refl _)))).more (Below.size (by repeat (first | exact Below.refl _ _ | assumption | refine Below.drew ?_ | refine Below.drewN ?_ _ | refine Below.allocT ?_ (Nat.le_refl _) _ | refine Below.setCell ?_ (by simp <;> omega) _ | refine Below.to ?_ (by assumption) (Nat.le_refl _)))))).mono ?_; rw [HY.out]; rintro e w2 ⟨rfl, hB2⟩) | (go_at_call 84; refine (checkFuses_any _ fs _ (by unfold maxLen; omega) ((H.out.f.below (by repeat (first | exact Below.refl _ _ | assumption | refine Below.drew ?_ | refine Below.drewN ?_ _ | refine Below.allocT ?_ (Nat.le_refl _) _ | refine Below.setCell ?_ (by simp <;> omega) _ | refine Below.to ?_ (by assumption) (Nat.le_refl _)))).more (Below.size (by repeat (first | exact Below.refl _ _ | assumption | refine Below.drew ?_ | refine Below.drewN ?_ _ | refine Below.allocT ?_ (Nat.le_refl _) _ | refine Below.setCell ?_ (by simp <;> omega) _ | refine Below.to ?_ (by assumption) (Nat.le_refl _)))))).mono ?_; rw [HZ2.out]; rintro e w3 ⟨rfl, hB3⟩) | (go_at_call 58; refine (errors3v _ x y z u _ (by simp) (by simp) (by simp) HU.out).mono ?_; rintro e w4 ⟨rfl, rfl⟩))
    (try dsimp only)
    refine hK.out _ _ ?_ (fun hNext => ?_)
    · try dsimp only
      exact (by repeat (first | exact Below.refl _ _ | assumption | refine Below.drew ?_ | refine Below.drewN ?_ _ | refine Below.allocT ?_ (Nat.le_refl _) _ | refine Below.setCell ?_ (by simp <;> omega) _ | refine Below.to ?_ (by assumption) (Nat.le_refl _)))
    clear hK K hHeld
    have hHeld := hNext
    clear hNext
    (try dsimp only at hHeld)
    try simp only [Act.put, List.getElem_toArray, List.getElem_cons_succ, List.getElem_cons_zero, List.setIfInBounds_toArray, List.set_cons_zero, List.set_cons_succ]
    refine wpAnyH_ready (rs := [7]) (by kernel_rfl) (by simp) ?_
    refine AllReadyH.cons rfl (fun K hK => ?_) AllReadyH.nil
    go_simp
    (first | (go_at_call 76; refine (many_any _ _).mono ?_; rw [HX.out]; rintro e w1 ⟨rfl, rfl⟩) | (go_at_call 77; refine (checkGauges_any _ gs _ (by unfold maxLen; omega) ((H.out.g.below (by repeat (first | exact Below.refl _ _ | assumption | refine Below.drew ?_ | refine Below.drewN ?_ _ | refine Below.allocT ?_ (Nat.le_refl _) _ | refine Below.setCell ?_ (by simp <;> omega) _ | refine Below.to ?_ (by assumption) (Nat.le_refl _)))).more (Below.size (by repeat (first | exact Below.refl _ _ | assumption | refine Below.drew ?_ | refine Below.drewN ?_ _ | refine Below.allocT ?_ (Nat.le_refl _) _ | refine Below.setCell ?_ (by simp <;> omega) _ | refine Below.to ?_ (by assumption) (Nat.le_refl _)))))).mono ?_; rw [HY.out]; rintro e w2 ⟨rfl, hB2⟩) | (go_at_call 84; refine (checkFuses_any _ fs _ (by unfold maxLen; omega) ((H.out.f.below (by repeat (first | exact Below.refl _ _ | assumption | refine Below.drew ?_ | refine Below.drewN ?_ _ | refine Below.allocT ?_ (Nat.le_refl _) _ | refine Below.setCell ?_ (by simp <;> omega) _ | refine Below.to ?_ (by assumption) (Nat.le_refl _)))).more (Below.size (by repeat (first | exact Below.refl _ _ | assumption | refine Below.drew ?_ | refine Below.drewN ?_ _ | refine Below.allocT ?_ (Nat.le_refl _) _ | refine Below.setCell ?_ (by simp <;> omega) _ | refine Below.to ?_ (by assumption) (Nat.le_refl _)))))).mono ?_; rw [HZ2.out]; rintro e w3 ⟨rfl, hB3⟩) | (go_at_call 58; refine (errors3v _ x y z u _ (by simp) (by simp) (by simp) HU.out).mono ?_; rintro e w4 ⟨rfl, rfl⟩))
    (try dsimp only)
    refine hK.out _ _ ?_ (fun hNext => ?_)
    · try dsimp only
      exact (by repeat (first | exact Below.refl _ _ | assumption | refine Below.drew ?_ | refine Below.drewN ?_ _ | refine Below.allocT ?_ (Nat.le_refl _) _ | refine Below.setCell ?_ (by simp <;> omega) _ | refine Below.to ?_ (by assumption) (Nat.le_refl _)))
    clear hK K hHeld
    have hHeld := hNext
    clear hNext
    (try dsimp only at hHeld)
    try simp only [Act.put, List.getElem_toArray, List.getElem_cons_succ, List.getElem_cons_zero, List.setIfInBounds_toArray, List.set_cons_zero, List.set_cons_succ]
    refine wpAnyH_ready (rs := [8]) (by kernel_rfl) (by simp) ?_
    refine AllReadyH.cons rfl (fun K hK => ?_) AllReadyH.nil
    go_simp
    refine hK.out _ _ ?_ (fun hNext => ?_)
    · try dsimp only
      exact (by repeat (first | exact Below.refl _ _ | assumption | refine Below.drew ?_ | refine Below.drewN ?_ _ | refine Below.allocT ?_ (Nat.le_refl _) _ | refine Below.setCell ?_ (by simp <;> omega) _ | refine Below.to ?_ (by assumption) (Nat.le_refl _)))
    clear hK K hHeld
    have hHeld := hNext
    clear hNext
    (try dsimp only at hHeld)
    try simp only [Act.put, List.getElem_toArray, List.getElem_cons_succ, List.getElem_cons_zero, List.setIfInBounds_toArray, List.set_cons_zero, List.set_cons_succ]
    refine wpAnyH_ready (rs := [9]) (by kernel_rfl) (by simp) ?_
    refine AllReadyH.cons rfl (fun K hK => ?_) AllReadyH.nil
    go_simp
    (first | (go_at_call 76; refine (many_any _ _).mono ?_; rw [HX.out]; rintro e w1 ⟨rfl, rfl⟩) | (go_at_call 77; refine (checkGauges_any _ gs _ (by unfold maxLen; omega) ((H.out.g.below (by repeat (first | exact Below.refl _ _ | assumption | refine Below.drew ?_ | refine Below.drewN ?_ _ | refine Below.allocT ?_ (Nat.le_refl _) _ | refine Below.setCell ?_ (by simp <;> omega) _ | refine Below.to ?_ (by assumption) (Nat.le_refl _)))).more (Below.size (by repeat (first | exact Below.refl _ _ | assumption | refine Below.drew ?_ | refine Below.drewN ?_ _ | refine Below.allocT ?_ (Nat.le_refl _) _ | refine Below.setCell ?_ (by simp <;> omega) _ | refine Below.to ?_ (by assumption) (Nat.le_refl _)))))).mono ?_; rw [HY.out]; rintro e w2 ⟨rfl, hB2⟩) | (go_at_call 84; refine (checkFuses_any _ fs _ (by unfold maxLen; omega) ((H.out.f.below (by repeat (first | exact Below.refl _ _ | assumption | refine Below.drew ?_ | refine Below.drewN ?_ _ | refine Below.allocT ?_ (Nat.le_refl _) _ | refine Below.setCell ?_ (by simp <;> omega) _ | refine Below.to ?_ (by assumption) (Nat.le_refl _)))).more (Below.size (by repeat (first | exact Below.refl _ _ | assumption | refine Below.drew ?_ | refine Below.drewN ?_ _ | refine Below.allocT ?_ (Nat.le_refl _) _ | refine Below.setCell ?_ (by simp <;> omega) _ | refine Below.to ?_ (by assumption) (Nat.le_refl _)))))).mono ?_; rw [HZ2.out]; rintro e w3 ⟨rfl, hB3⟩) | (go_at_call 58; refine (errors3v _ x y z u _ (by simp) (by simp) (by simp) HU.out).mono ?_; rintro e w4 ⟨rfl, rfl⟩))
    (try dsimp only)
    refine hK.out _ _ ?_ (fun hNext => ?_)
    · try dsimp only
      exact (by repeat (first | exact Below.refl _ _ | assumption | refine Below.drew ?_ | refine Below.drewN ?_ _ | refine Below.allocT ?_ (Nat.le_refl _) _ | refine Below.setCell ?_ (by simp <;> omega) _ | refine Below.to ?_ (by assumption) (Nat.le_refl _)))
    clear hK K hHeld
    have hHeld := hNext
    clear hNext
    (try dsimp only at hHeld)
    try simp only [Act.put, List.getElem_toArray, List.getElem_cons_succ, List.getElem_cons_zero, List.setIfInBounds_toArray, List.set_cons_zero, List.set_cons_succ]
    refine wpAnyH_take (i := 10) (v := ?v1_10) rfl (by kernel_rfl) (by kernel_rfl) (by kernel_rfl) (fun _ _ _ h => h) (Or.inl ⟨by rfl, ?y1_10⟩) (by assumption) ?r1_10
    case' y1_10 => (intro w hSw; (try dsimp only at hSw); (try have hlS := HLK.out _ hSw); obtain ⟨hcS, hfS⟩ := bcell hSw; clear hSw; go_simp; try with_reducible rfl)
    try simp only [Act.put, List.getElem_toArray, List.getElem_cons_succ, List.getElem_cons_zero, List.setIfInBounds_toArray, List.set_cons_zero, List.set_cons_succ]
    refine wpAnyH_done (by kernel_rfl) ?_ _
    generalize hwh : World.alloc _ _ = wh at hHeld ⊢
    clear hwh
    clear k0 k1 k2 hB2 hB3
    have HB0 : Hid (Below w0.heap.size w0 wh) := hHeld
    have HBw := hide hB0
    have HWI := hide hwi
    clear hHeld hB0 hwi hb0
    by_cases hu0 : u = 0
    · obtain ⟨he0, ht, hn2, he⟩ := HE0.out hu0
      have HE := hide he
      clear he0 ht hn2 he
      have hu1 : (u != 0) = false := by simp [hu0]
      clear hu0
      obtain ⟨k0, k1, k2, _⟩ := wi3 HWI.out HB0.out
      go_wp2_with fail
      clear k0 k1 k2
      go_loopw [5, 6, 39] (fun _ _ i wr => ∃ k : Nat, k ≤ es.length ∧ i = .int .i64 k ∧ Hid (∀ j, j < k → feOk gs fs es j = true) ∧ Hid (Below wh.heap.size wh wr)) (fun _ _ i _ => es.length - (intOf i).toNat)
      case atStart => exact ⟨0, Nat.zero_le _, rfl, fun j hj => by omega, Below.refl _ _⟩
      case round =>
        obtain ⟨k, hk, rfl, hz, hB⟩ := hrel
        have HBr : Hid (Below w0.heap.size w0 wr) := Below.to HB0.out hB.out (Nat.le_refl _)
        have HBq : Hid (Below w.heap.size w wr) := Below.to HBw.out HBr.out (Nat.le_refl _)
        by_cases hlt : k < es.length
        · obtain ⟨f, C, cp, HZ, hA1, hbw, h0, h1, h2, h3, h4, h5, h6, hy⟩ := feAtB HBq.out HA.out HC.out HCY.out hlt
          subst hA1
          have HN20 : Hid (f.cs.length ≤ 20) := by show _; have := HZ_.out.c k hlt; rw [HZ.out] at this; exact this
          obtain ⟨b1, hb1⟩ : ∃ x, fromB f.par (-1) ((k : Int) - 1) = x := ⟨_, rfl⟩
          obtain ⟨b2, hb2⟩ : ∃ x, fromB f.gauge 0 ((gs.length : Int) - 1) = x := ⟨_, rfl⟩
          obtain ⟨b3, hb3⟩ : ∃ x, fromB f.fuse 0 ((fs.length : Int) - 1) = x := ⟨_, rfl⟩
          obtain ⟨b4, hb4⟩ : ∃ x, needOk f.n f.cs = x := ⟨_, rfl⟩
          have HS : Hid (feOk gs fs es k = (b1 && b2 && b3 && b4)) := by show _ = _; unfold feOk; rw [HZ.out, hb1, hb2, hb3, hb4]
          have HB1 := hide hb1
          have HB2 := hide hb2
          have HB3 := hide hb3
          have HB4 : Hid (needErr f.n f.cs = if b4 then 0 else 71) := by show _ = _; rw [← hb4]; rfl
          clear hb1 hb2 hb3 hb4
          go_upto_region 8 with (fail)
          generalize hw5 : World.alloc _ _ = w5
          obtain ⟨hb5, hB5, hs5⟩ := alloc1 hw5
          clear hw5 h0 h1 h2 h3 h4 h5 h6
          have HB5 := hide hB5
          have HBs : Hid (Below w0.heap.size w0 w5) := Below.to HBr.out hB5 (Nat.le_refl _)
          obtain ⟨k0, k1, k2, _⟩ := wi3 HWI.out HBs.out
          have m0 := cellOf hb5 0
          have m1 := cellOf hb5 1
          have m2 := cellOf hb5 2
          have m3 := cellOf hb5 3
          have m4 := cellOf hb5 4
          have m5 := cellOf hb5 5
          have m6 := cellOf hb5 6
          have HCY5 : Hid (Cyc w5 w5.heap.size (.slice C f.cs.length cp) f.cs) := Sl.more (Sl.below hy.out ((show Below w.heap.size wr w5 from hB5.mono HBq.out.size))) (by have := HBq.out.size; have := hB5.size; omega)
          clear hb5 hB5 hs5
          cases b1
          · go_wp2_with (go_at_call 49; refine (within_any _ _ _ _).mono ?_; (first | rw [HB1.out] | rw [HB2.out] | rw [HB3.out]); rintro e w' ⟨rfl, rfl⟩)
            go_ret
            exact ⟨ret_int (by rw [HE.out, fesB_at hlt (by rw [HS.out]; rfl)]; rfl), Below.to HBq.out HB5.out (Nat.le_refl _)⟩
          · cases b2
            · go_wp2_with (go_at_call 49; refine (within_any _ _ _ _).mono ?_; (first | rw [HB1.out] | rw [HB2.out] | rw [HB3.out]); rintro e w' ⟨rfl, rfl⟩)
              go_ret
              exact ⟨ret_int (by rw [HE.out, fesB_at hlt (by rw [HS.out]; rfl)]; rfl), Below.to HBq.out HB5.out (Nat.le_refl _)⟩
            · cases b3
              · go_wp2_with (go_at_call 49; refine (within_any _ _ _ _).mono ?_; (first | rw [HB1.out] | rw [HB2.out] | rw [HB3.out]); rintro e w' ⟨rfl, rfl⟩)
                go_ret
                exact ⟨ret_int (by rw [HE.out, fesB_at hlt (by rw [HS.out]; rfl)]; rfl), Below.to HBq.out HB5.out (Nat.le_refl _)⟩
              · cases b4
                · go_wp2_with (first | (go_at_call 49; refine (within_any _ _ _ _).mono ?_; (first | rw [HB1.out] | rw [HB2.out] | rw [HB3.out]); rintro e w' ⟨rfl, rfl⟩) | (go_at_call 72; refine (checkNeed_any f.n _ f.cs _ HN20.out HCY5.out).mono ?_; rw [HB4.out]; rintro e w6 ⟨rfl, hB6⟩))
                  go_ret
                  exact ⟨ret_int (by rw [HE.out, fesB_at hlt (by rw [HS.out]; rfl)]; rfl), Below.to (Below.to HBq.out HB5.out (Nat.le_refl _)) hB6 (Nat.le_refl _)⟩
                · go_wp2_with (first | (go_at_call 49; refine (within_any _ _ _ _).mono ?_; (first | rw [HB1.out] | rw [HB2.out] | rw [HB3.out]); rintro e w' ⟨rfl, rfl⟩) | (go_at_call 72; refine (checkNeed_any f.n _ f.cs _ HN20.out HCY5.out).mono ?_; rw [HB4.out]; rintro e w6 ⟨rfl, hB6⟩))
                  go_roundw
                  case rel => exact ⟨k + 1, by omega, by go_num, fun j hj => by
                      rcases Nat.lt_or_ge j k with h | h
                      · exact hz.out j h
                      · rw [show j = k from by omega, HS.out]; rfl, Below.to (Below.to hB.out HB5.out (Nat.le_refl _)) hB6 (Nat.le_refl _)⟩
                  case measure => simp [intOf]; omega
        · go_wp2
          go_ret
          exact ⟨ret_int (by rw [HE.out, fesB_all (fun j hj => hz.out j (by omega))]; rfl), HBq.out⟩
    · have HE := hide (HE1.out hu0)
      have hu1 : (u != 0) = true := by simp [hu0]
      clear hu0
      go_wp2_with fail
      go_ret
      exact ⟨ret_int HE.out.symm, Below.to HBw.out HB0.out (Nat.le_refl _)⟩
end Go.Proofs.Ytejjjijaojkohaa
/- What opens in a short circuit: plain laws. -/
namespace Go.Proofs.Ytejjjijaojkohaa
set_option linter.unusedVariables false
set_option linter.unusedSimpArgs false
theorem coprime_blow {f : Fu} (hf : f.Ok) {a : Int} (h : 0 < blowDen f a) : 0 < blowNum f a ∧ Nat.gcd (blowNum f a).toNat (blowDen f a).toNat = 1 := by
  unfold blowDen at h ⊢
  unfold blowNum
  split at h
  · omega
  · rename_i hr
    rw [if_neg hr, if_neg hr]
    have hm := hf.melt0
    have hs := sq_lt hf.rating0 (show f.rating < a by omega)
    obtain ⟨m, hm2⟩ : ∃ m : Nat, f.melt = (m : Int) := ⟨f.melt.toNat, by omega⟩
    obtain ⟨r, hr2⟩ : ∃ r : Nat, a * a - f.rating * f.rating = (r : Int) := ⟨(a * a - f.rating * f.rating).toNat, by omega⟩
    rw [hm2, hr2]
    simp only [Int.toNat_natCast]
    have hg : 0 < Nat.gcd m r := Nat.gcd_pos_of_pos_left r (by omega)
    have e1 : ((m : Int) / (Nat.gcd m r : Int)) = ((m / Nat.gcd m r : Nat) : Int) := by simp
    have e2 : ((r : Int) / (Nat.gcd m r : Int)) = ((r / Nat.gcd m r : Nat) : Int) := by simp
    rw [e1, e2, Int.toNat_natCast, Int.toNat_natCast]
    refine ⟨?_, by rw [Nat.gcd_div (Nat.gcd_dvd_left m r) (Nat.gcd_dvd_right m r), Nat.div_self hg]⟩
    have := Nat.div_pos (Nat.le_of_dvd (by omega) (Nat.gcd_dvd_left m r)) hg
    omega
theorem frac_eq {a b c d : Nat} (h1 : Nat.gcd a b = 1) (h2 : Nat.gcd c d = 1) (hb : 0 < b) (hd : 0 < d) (h : a * d = c * b) : a = c ∧ b = d := by
  have e1 : a ∣ c := (Nat.Coprime.dvd_of_dvd_mul_right (show Nat.Coprime a b from h1) ⟨d, h.symm⟩)
  have e2 : c ∣ a := (Nat.Coprime.dvd_of_dvd_mul_right (show Nat.Coprime c d from h2) ⟨b, h⟩)
  have e3 : a = c := Nat.dvd_antisymm e1 e2
  subst e3
  refine ⟨rfl, ?_⟩
  rcases Nat.eq_zero_or_pos a with h0 | h0
  · subst h0
    rw [Nat.gcd_zero_left] at h1 h2
    omega
  · exact (Nat.eq_of_mul_eq_mul_left h0 h).symm
/-- Two fuses that open at the same time open after the same number of seconds. -/
theorem blow_eq {f g : Fu} (hf : f.Ok) (hg : g.Ok) {a : Int} (h1 : 0 < blowDen f a) (h2 : 0 < blowDen g a) (h : blowNum f a * blowDen g a = blowNum g a * blowDen f a) : blowNum f a = blowNum g a ∧ blowDen f a = blowDen g a := by
  obtain ⟨p1, q1⟩ := coprime_blow hf h1
  obtain ⟨p2, q2⟩ := coprime_blow hg h2
  obtain ⟨a1, e1⟩ : ∃ n : Nat, blowNum f a = (n : Int) := ⟨(blowNum f a).toNat, by omega⟩
  obtain ⟨b1, e2⟩ : ∃ n : Nat, blowDen f a = (n : Int) := ⟨(blowDen f a).toNat, by omega⟩
  obtain ⟨a2, e3⟩ : ∃ n : Nat, blowNum g a = (n : Int) := ⟨(blowNum g a).toNat, by omega⟩
  obtain ⟨b2, e4⟩ : ∃ n : Nat, blowDen g a = (n : Int) := ⟨(blowDen g a).toNat, by omega⟩
  rw [e1, e2, e3, e4] at h ⊢
  rw [e2] at h1
  rw [e4] at h2
  rw [e1, e2, Int.toNat_natCast, Int.toNat_natCast] at q1
  rw [e3, e4, Int.toNat_natCast, Int.toNat_natCast] at q2
  have h3 : a1 * b2 = a2 * b1 := by exact_mod_cast h
  obtain ⟨r1, r2⟩ := frac_eq q1 q2 (by omega) (by omega) h3
  omega
/-- The feeders from one up to the root. -/
def pathF (es : List Fe) : Nat → Int → List Nat
  | 0, _ => []
  | n + 1, i => if i < 0 then [] else i.toNat :: pathF es n (es.getD i.toNat Fe.z).par
def pathL (es : List Fe) (i : Int) : List Nat := pathF es (i + 1).toNat i
theorem pathF_more {es : List Fe} (hp : ∀ i, i < es.length → (es.getD i Fe.z).par ≤ (i : Int) - 1) : ∀ (n m : Nat) (i : Int), i < es.length → (i + 1).toNat ≤ n → n ≤ m → pathF es m i = pathF es n i
  | 0, 0, i, _, _, _ => rfl
  | 0, m + 1, i, hi, h, _ => by
    show (if i < 0 then [] else _) = []
    rw [if_pos (by omega)]
  | n + 1, 0, i, hi, h, hm => by omega
  | n + 1, m + 1, i, hi, h, hm => by
    rw [pathF, pathF]
    by_cases h0 : i < 0
    · rw [if_pos h0, if_pos h0]
    · rw [if_neg h0, if_neg h0]
      have h1 := hp i.toNat (by omega)
      rw [pathF_more hp n m _ (by omega) (by omega) (by omega)]
theorem pathL_neg {es : List Fe} {i : Int} (h : i < 0) : pathL es i = [] := by
  unfold pathL
  rw [show (i + 1).toNat = 0 by omega]; rfl
theorem pathL_step {es : List Fe} (hp : ∀ i, i < es.length → (es.getD i Fe.z).par ≤ (i : Int) - 1) {k : Nat} (hk : k < es.length) : pathL es k = k :: pathL es (es.getD k Fe.z).par := by
  unfold pathL
  rw [show ((k : Int) + 1).toNat = k + 1 by omega, pathF, if_neg (by omega), Int.toNat_natCast]
  have h1 := hp k hk
  congr 1
  exact pathF_more hp _ _ _ (by omega) (Nat.le_refl _) (by omega)
theorem pathL_le {es : List Fe} (hp : ∀ i, i < es.length → (es.getD i Fe.z).par ≤ (i : Int) - 1) : ∀ (n : Nat) (i : Int), i < es.length → (i + 1).toNat ≤ n → ∀ j ∈ pathL es i, (j : Int) ≤ i
  | n, i, hi, hn, j, hj => by
    by_cases h0 : i < 0
    · rw [pathL_neg h0] at hj; simp at hj
    · obtain ⟨k, rfl⟩ : ∃ k : Nat, i = (k : Int) := ⟨i.toNat, by omega⟩
      rw [pathL_step hp (by omega)] at hj
      rcases List.mem_cons.1 hj with rfl | h
      · omega
      · match n, hn with
        | n + 1, hn =>
          have h1 := hp k (by omega)
          have := pathL_le hp n (es.getD k Fe.z).par (by omega) (by omega) j h
          omega
theorem pathL_dec {es : List Fe} (hp : ∀ i, i < es.length → (es.getD i Fe.z).par ≤ (i : Int) - 1) : ∀ (n : Nat) (i : Int), i < es.length → (i + 1).toNat ≤ n → (pathL es i).Pairwise (fun a b => b < a)
  | n, i, hi, hn => by
    by_cases h0 : i < 0
    · rw [pathL_neg h0]; exact List.Pairwise.nil
    · obtain ⟨k, rfl⟩ : ∃ k : Nat, i = (k : Int) := ⟨i.toNat, by omega⟩
      rw [pathL_step hp (by omega)]
      have h1 := hp k (by omega)
      match n, hn with
      | n + 1, hn =>
        refine List.Pairwise.cons (fun j hj => ?_) (pathL_dec hp n _ (by omega) (by omega))
        have := pathL_le hp n _ (by omega) (by omega) j hj
        omega
/-- What a search for the fuses that open first has found: the feeders, the time. -/
structure Sh where
  l : List Nat
  num : Int
  den : Int
def Sh.z : Sh := ⟨[], 0, 0⟩
def fuOf (fs : List Fu) (es : List Fe) (i : Nat) : Fu := fs.getD (es.getD i Fe.z).fuse.toNat Fu.z
def stepS (fs : List Fu) (es : List Fe) (amps : Int) (s : Sh) (i : Nat) : Sh :=
  if blowDen (fuOf fs es i) amps = 0 ∨ (0 < s.den ∧ s.num * blowDen (fuOf fs es i) amps < blowNum (fuOf fs es i) amps * s.den) then s
  else if s.den = 0 ∨ blowNum (fuOf fs es i) amps * s.den < s.num * blowDen (fuOf fs es i) amps then ⟨[i], blowNum (fuOf fs es i) amps, blowDen (fuOf fs es i) amps⟩
  else ⟨s.l ++ [i], s.num, s.den⟩
def shOf (fs : List Fu) (es : List Fe) (amps : Int) (feeder : Nat) : Sh := (pathL es feeder).foldl (stepS fs es amps) Sh.z
/-- The time found is that of a fuse. -/
def ShOk (amps : Int) (s : Sh) : Prop := (s.num = 0 ∧ s.den = 0) ∨ ∃ f : Fu, f.Ok ∧ s.num = blowNum f amps ∧ s.den = blowDen f amps ∧ 0 < s.den
theorem step_sub (fs : List Fu) (es : List Fe) (amps : Int) : ∀ (L : List Nat) (s : Sh), (L.foldl (stepS fs es amps) s).l.Sublist (s.l ++ L)
  | [], s => by simp
  | i :: L, s => by
    have h := step_sub fs es amps L (stepS fs es amps s i)
    rw [List.foldl_cons]
    refine h.trans ?_
    rw [show s.l ++ i :: L = (s.l ++ [i]) ++ L by simp]
    refine List.Sublist.append ?_ (List.Sublist.refl L)
    unfold stepS
    split
    · exact List.sublist_append_left _ _
    · split
      · exact List.sublist_append_right _ _
      · exact List.Sublist.refl _
theorem sh_dec {fs : List Fu} {es : List Fe} {amps : Int} (hp : ∀ i, i < es.length → (es.getD i Fe.z).par ≤ (i : Int) - 1) {k : Nat} (hk : k < es.length) : (shOf fs es amps k).l.Pairwise (fun a b => b < a) := by
  have h := step_sub fs es amps (pathL es k) Sh.z
  exact List.Pairwise.sublist (show (shOf fs es amps k).l.Sublist (pathL es k) from h) (pathL_dec hp (k + 1) k (by omega) (by omega))
theorem step_ok {fs : List Fu} {es : List Fe} {amps : Int} {s : Sh} {i : Nat} (h : ShOk amps s) (hf : (fuOf fs es i).Ok) (hb : 0 ≤ blowDen (fuOf fs es i) amps) : ShOk amps (stepS fs es amps s i) := by
  unfold stepS
  split
  · exact h
  · rename_i h1
    split
    · exact .inr ⟨_, hf, rfl, rfl, by show 0 < blowDen _ _; omega⟩
    · exact h
/-- How the elder program takes a feeder: at the head. -/
def stepE (a b : Int) (s : Sh) (i : Nat) : Sh :=
  let s' : Sh := if b ≠ 0 ∧ (s.den = 0 ∨ a * s.den < s.num * b) then ⟨[], a, b⟩ else s
  if 0 < b ∧ a = s'.num ∧ b = s'.den then ⟨i :: s'.l, s'.num, s'.den⟩ else s'
theorem step_same {fs : List Fu} {es : List Fe} {amps : Int} {s : Sh} {i : Nat} (h : ShOk amps s) (hf : (fuOf fs es i).Ok) (hb : 0 ≤ blowDen (fuOf fs es i) amps) :
    stepE (blowNum (fuOf fs es i) amps) (blowDen (fuOf fs es i) amps) ⟨s.l.reverse, s.num, s.den⟩ i = ⟨(stepS fs es amps s i).l.reverse, (stepS fs es amps s i).num, (stepS fs es amps s i).den⟩ := by
  obtain ⟨l, num, den⟩ := s
  obtain ⟨a, ha⟩ : ∃ a, blowNum (fuOf fs es i) amps = a := ⟨_, rfl⟩
  obtain ⟨b, hbb⟩ : ∃ b, blowDen (fuOf fs es i) amps = b := ⟨_, rfl⟩
  have hd0 : 0 ≤ den := by
    rcases h with ⟨_, h2⟩ | ⟨f, _, _, _, h3⟩
    · exact Int.le_of_eq h2.symm
    · exact Int.le_of_lt h3
  have hS : stepS fs es amps ⟨l, num, den⟩ i = if b = 0 ∨ (0 < den ∧ num * b < a * den) then ⟨l, num, den⟩ else if den = 0 ∨ a * den < num * b then ⟨[i], a, b⟩ else ⟨l ++ [i], num, den⟩ := by
    unfold stepS
    rw [ha, hbb]
  rw [hS, ha, hbb]
  rw [hbb] at hb
  unfold stepE
  simp only
  by_cases h0 : b = 0
  · have q1 : ¬ (b ≠ 0 ∧ (den = 0 ∨ a * den < num * b)) := fun q => q.1 h0
    have q2 : b = 0 ∨ (0 < den ∧ num * b < a * den) := .inl h0
    rw [if_neg q1, if_pos q2]
    simp only
    rw [if_neg (by omega)]
  · have hbp : 0 < b := by omega
    by_cases he : den = 0 ∨ a * den < num * b
    · have hn : ¬ (b = 0 ∨ (0 < den ∧ num * b < a * den)) := by
        rintro (q | ⟨q1, q2⟩)
        · exact h0 q
        · rcases he with q | q
          · omega
          · omega
      rw [if_pos (show b ≠ 0 ∧ (den = 0 ∨ a * den < num * b) from ⟨h0, he⟩), if_neg hn, if_pos he]
      rw [if_pos (show 0 < b ∧ a = (⟨[], a, b⟩ : Sh).num ∧ b = (⟨[], a, b⟩ : Sh).den from ⟨hbp, rfl, rfl⟩)]
      rfl
    · rw [if_neg (show ¬ (b ≠ 0 ∧ (den = 0 ∨ a * den < num * b)) from fun q => he q.2)]
      simp only
      have hdp : 0 < den := by
        rcases Int.lt_or_eq_of_le hd0 with q | q
        · exact q
        · exact absurd (.inl q.symm) he
      by_cases hg : num * b < a * den
      · rw [if_pos (show b = 0 ∨ (0 < den ∧ num * b < a * den) from .inr ⟨hdp, hg⟩), if_neg (by rintro ⟨_, q1, q2⟩; rw [q1, q2] at hg; omega)]
      · rw [if_neg (show ¬ (b = 0 ∨ (0 < den ∧ num * b < a * den)) by rintro (q | q); exact h0 q; exact hg q.2), if_neg he]
        have heq : a * den = num * b := by
          have : ¬ a * den < num * b := fun q => he (.inr q)
          omega
        rcases h with ⟨_, q⟩ | ⟨f, q1, q2, q3, q4⟩
        · simp only at q; omega
        · simp only at q2 q3 q4
          rw [q2, q3] at heq
          rw [q3] at q4
          rw [← ha, ← hbb] at heq
          obtain ⟨r1, r2⟩ := blow_eq hf q1 (by rw [hbb]; exact hbp) q4 heq
          rw [if_pos ⟨hbp, by rw [q2, ← ha]; exact r1, by rw [q3, ← hbb]; exact r2⟩]
          simp
/-- Sorted, what was found comes in the other order. -/
theorem sort_dec {l : List Nat} (h : l.Pairwise (fun a b => b < a)) : (l.map fun (n : Nat) => (n : Int)).mergeSort (fun x y => decide (x ≤ y)) = l.reverse.map fun (n : Nat) => (n : Int) := by
  have h1 : ((l.map fun (n : Nat) => (n : Int)).mergeSort (fun x y => decide (x ≤ y))).Perm (l.reverse.map fun (n : Nat) => (n : Int)) := by
    refine (List.mergeSort_perm _ _).trans ?_
    rw [List.map_reverse]
    exact (List.reverse_perm _).symm
  have h2 := List.pairwise_mergeSort (le := fun x y : Int => decide (x ≤ y)) (fun a b c h1 h2 => by simp at *; omega) (fun a b => by simp; omega) (l.map fun (n : Nat) => (n : Int))
  have h3 : (l.reverse.map fun (n : Nat) => (n : Int)).Pairwise (fun x y => decide (x ≤ y) = true) := by
    rw [List.pairwise_map, List.pairwise_reverse]
    exact h.imp (fun {a b} q => by simp; omega)
  exact h1.eq_of_pairwise (fun a b _ _ p q => by simp at p q; omega) h2 h3
end Go.Proofs.Ytejjjijaojkohaa
/- A wiring copied: a walk. -/
namespace Go.Proofs.Ytejjjijaojkohaa
open Go.RowKit
set_option linter.unusedVariables false
set_option linter.unusedSimpArgs false
attribute [local go_sem ↓] Go.wp_at_zero Go.wp_at_succ

theorem infoFe : (Try.prog.info? 74).map (fun i => (i.zero, i.size, i.bytes)) = some (some (.agg #[.int .i64 0, .int .i64 0, .int .i64 0, .slice none 0 0, .int .i64 0, .int .i64 0, .int .i64 0]), 7, 72) := by kernel_rfl
theorem flat_one' {n sz : Nat} {f : Nat → Nat → Value} (hsz : 0 < sz) (h : ∀ i j, i < n → j < sz → (f i j).oneCell' = true) : ∀ u ∈ flat n sz f, u.oneCell' = true := by
  intro u hu
  obtain ⟨m, hm⟩ := List.mem_iff_getElem?.1 hu
  obtain ⟨i, j, hi, hj, _, rfl⟩ := flat_inv hsz hm
  exact h i j hi hj

/-- A cycle apart from block g. -/
def CycX (w : World) (g x : Nat) (v : Value) (cs : List Cu) : Prop :=
  ∃ (A : Option Addr) (b off cap : Nat), v = .slice A cs.length cap ∧ cs.length ≤ cap ∧ (A = some ⟨b, off, none⟩ ∧ b < w.heap.size ∧ b ≠ g ∧ b ≠ x ∨ cs.length = 0) ∧ ∀ i j, i < cs.length → j < 2 → w.cell? ⟨b, off + (i * 2 + j), none⟩ = some (cyF cs i j)
theorem CycX.cyc {w : World} {g x : Nat} {v : Value} {cs : List Cu} (h : CycX w g x v cs) : Cyc w w.heap.size v cs := by
  obtain ⟨A, b, off, cap, hv, hn, hA, hc⟩ := h
  exact ⟨A, b, off, cap, hv, hn, hA.imp (fun ⟨a, c, _⟩ => ⟨a, c⟩) id, hc⟩
theorem CycX.of {w : World} {B g x : Nat} {v : Value} {cs : List Cu} (h : Cyc w B v cs) (hB : B ≤ w.heap.size) (hg : B ≤ g) (hx : B ≤ x) : CycX w g x v cs := by
  obtain ⟨A, b, off, cap, hv, hn, hA, hc⟩ := h
  exact ⟨A, b, off, cap, hv, hn, hA.imp (fun ⟨a, c⟩ => ⟨a, by omega, by omega, by omega⟩) id, hc⟩
theorem CycX.grown {w w' : World} {g x : Nat} {v : Value} {cs : List Cu} (h : CycX w g x v cs) (hg : w.grownBy w' (some g)) : CycX w' g x v cs := by
  obtain ⟨A, b, off, cap, hv, hn, hA, hc⟩ := h
  refine ⟨A, b, off, cap, hv, hn, hA.imp (fun ⟨a, c, d⟩ => ⟨a, Nat.lt_of_lt_of_le c hg.size, d⟩) id, fun i j hi hj => ?_⟩
  rcases hA with ⟨_, hb, hne, _⟩ | h0
  · rw [gcell hg b _ hb hne]; exact hc i j hi hj
  · omega
theorem CycX.grownx {w w' : World} {g x : Nat} {v : Value} {cs : List Cu} (h : CycX w g x v cs) (hg : w.grownBy w' (some x)) : CycX w' g x v cs := by
  obtain ⟨A, b, off, cap, hv, hn, hA, hc⟩ := h
  refine ⟨A, b, off, cap, hv, hn, hA.imp (fun ⟨a, c, d⟩ => ⟨a, Nat.lt_of_lt_of_le c hg.size, d⟩) id, fun i j hi hj => ?_⟩
  rcases hA with ⟨_, hb, _, hne⟩ | h0
  · rw [gcell hg b _ hb hne]; exact hc i j hi hj
  · omega
theorem CycX.owned {w : World} {base g x : Nat} {v : Value} {cs : List Cu} (h : w.ownsRow base 54 2 v cs.length (flat cs.length 2 (cyF cs))) (hg : g < base) (hx : x < base) : CycX w g x v cs := by
  have h0 := Sl.of_owns h (fun i j hi hj => flat_get hi hj)
  obtain ⟨h1, ⟨hv, hn⟩ | ⟨b, cap, cur, hv, hb, hh, hn, _⟩⟩ := h
  · exact ⟨none, 0, 0, 0, by rw [hv, hn], by omega, .inr hn, fun i j hi hj => by omega⟩
  · obtain ⟨A, b', off, cap', hv', hn', hA', hc'⟩ := h0
    rw [hv] at hv'
    injection hv' with e1 e2 e3
    subst e3
    rcases hA' with ⟨hA', hb'⟩ | h0
    · rw [hA'] at e1
      injection e1 with e1
      injection e1 with e1 e4
      subst e1
      subst e4
      exact ⟨_, b, 0, cap, hv, hn, .inl ⟨rfl, hb', by omega, by omega⟩, hc'⟩
    · exact ⟨_, b, 0, cap, hv, hn, .inr h0, fun i j hi => by omega⟩

/-- The feeders' block while they are copied. -/
def FesX (w0 w : World) (x : Nat) (ve : Value) (es : List Fe) : Prop :=
  (es.length = 0 ∧ ∃ A cap, ve = .slice A 0 cap) ∨ ∃ (g cap : Nat) (C : Array Value) (cv : Nat → Value), ve = .slice (some ⟨g, 0, none⟩) es.length cap ∧ es.length ≤ cap ∧ w0.heap.size ≤ g ∧ w.heap[g]? = some (.cells C 74 (0, 0)) ∧ es.length * 7 ≤ C.size ∧
    (∀ i j, i < es.length → j < 7 → C[i * 7 + j]? = some (feC (es.getD i Fe.z) (cv i) j)) ∧ (∀ i, i < es.length → CycX w g x (cv i) (es.getD i Fe.z).cs)
structure CopyX (w0 w : World) (x pb : Nat) (vg vf ve : Value) (gs : List Ga) (fs : List Fu) (es : List Fe) : Prop where
  box : w.heap[pb]? = some (.cells #[vg, vf, ve] 63 (0, 0))
  g : w.ownsRow w0.heap.size 23 5 vg gs.length (flat gs.length 5 (gaF gs))
  f : w.ownsRow w0.heap.size 30 2 vf fs.length (flat fs.length 2 (fuF fs))
  e : FesX w0 w x ve es
  below : Below w0.heap.size w0 w

theorem wir_of {w0 w : World} {x : Nat} {vg vf ve : Value} {gs : List Ga} {fs : List Fu} {es : List Fe} (hg : w.ownsRow w0.heap.size 23 5 vg gs.length (flat gs.length 5 (gaF gs)))
    (hf : w.ownsRow w0.heap.size 30 2 vf fs.length (flat fs.length 2 (fuF fs))) (he : FesX w0 w x ve es) : Wir w w.heap.size vg vf ve gs fs es := by
  refine ⟨Sl.of_owns hg (fun i j hi hj => flat_get hi hj), Sl.of_owns hf (fun i j hi hj => flat_get hi hj), ?_⟩
  rcases he with ⟨h0, A, cap, rfl⟩ | ⟨g, cap, C, cv, rfl, hn, hg, hh, hs, hc, hcy⟩
  · refine ⟨fun _ => .slice none 0 0, ⟨A, 0, 0, cap, by rw [h0], by omega, .inr h0, fun i j hi => by omega⟩, fun i hi => by omega⟩
  · refine ⟨cv, ⟨_, g, 0, cap, rfl, hn, .inl ⟨rfl, box_lt hh⟩, fun i j hi hj => ?_⟩, fun i hi => (hcy i hi).cyc⟩
    rw [cellOf hh, Nat.zero_add]
    exact hc i j hi hj
theorem FesX.grownx {w0 w w' : World} {x : Nat} {ve : Value} {es : List Fe} (h : FesX w0 w x ve es) (hg : w.grownBy w' (some x)) (hx : x < w0.heap.size) : FesX w0 w' x ve es := by
  rcases h with h0 | ⟨g, cap, C, cv, hv, hn, hg', hh, hs, hc, hcy⟩
  · exact .inl h0
  · exact .inr ⟨g, cap, C, cv, hv, hn, hg', (hg.block g (box_lt hh) (fun e => by injection e with e; omega)).trans hh, hs, hc, fun i hi => (hcy i hi).grownx hg⟩

theorem FesX.form {w0 w : World} {x : Nat} {ve : Value} {es : List Fe} (h : FesX w0 w x ve es) : ∃ A cap, ve = .slice A es.length cap := by
  rcases h with ⟨h0, A, cap, h1⟩ | ⟨g, cap, C, cv, h1, _⟩
  · exact ⟨A, cap, by rw [h1, h0]⟩
  · exact ⟨_, cap, h1⟩
/-- One element's cycle replaced. -/
theorem FesX.step {w0 w w' : World} {es : List Fe} {g x cap k : Nat} {C : Array Value} {cv : Nat → Value} {v' : Value} (hk : k < es.length) (hn : es.length ≤ cap) (hg : w0.heap.size ≤ g)
    (hs : es.length * 7 ≤ C.size) (hc : ∀ i j, i < es.length → j < 7 → C[i * 7 + j]? = some (feC (es.getD i Fe.z) (cv i) j)) (hcy : ∀ i, i < es.length → CycX w g x (cv i) (es.getD i Fe.z).cs)
    (hgr : w.grownBy w' (some g)) (hv : CycX w' g x v' (es.getD k Fe.z).cs) {f : Fe} (hf : es.getD k Fe.z = f)
    (hh : w'.heap[g]? = some (.cells ((((C.setIfInBounds (k * 7 + 3) v').setIfInBounds (k * 7 + 3 + 1) (.int .i64 f.n.len)).setIfInBounds (k * 7 + 3 + 2) (.int .i64 f.n.drop)).setIfInBounds (k * 7 + 3 + 3) (.int .i64 f.n.amb)) 74 (0, 0))) :
    FesX w0 w' x (.slice (some ⟨g, 0, none⟩) es.length cap) es := by
  subst hf
  refine .inr ⟨g, cap, _, fun i => if i = k then v' else cv i, rfl, hn, hg, hh, by simpa using hs, fun i j hi hj => ?_, fun i hi => ?_⟩
  · have h0 := hc i j hi hj
    have hlt : i * 7 + j < C.size := (Array.getElem?_eq_some_iff.1 h0).1
    simp only [Array.getElem?_setIfInBounds, Array.size_setIfInBounds]
    by_cases e : i = k
    · subst e
      match j, hj with
      | 0, _ => rw [if_neg (by omega), if_neg (by omega), if_neg (by omega), if_neg (by omega)]; exact h0
      | 1, _ => rw [if_neg (by omega), if_neg (by omega), if_neg (by omega), if_neg (by omega)]; exact h0
      | 2, _ => rw [if_neg (by omega), if_neg (by omega), if_neg (by omega), if_neg (by omega)]; exact h0
      | 3, _ => rw [if_neg (by omega), if_neg (by omega), if_neg (by omega), if_pos (by omega), if_pos (by omega)]; simp [feC]
      | 4, _ => rw [if_neg (by omega), if_neg (by omega), if_pos (by omega), if_pos (by omega)]; rfl
      | 5, _ => rw [if_neg (by omega), if_pos (by omega), if_pos (by omega)]; rfl
      | 6, _ => rw [if_pos (by omega), if_pos (by omega)]; rfl
    · rw [if_neg (by omega), if_neg (by omega), if_neg (by omega), if_neg (by omega), if_neg e]
      exact h0
  · by_cases e : i = k
    · subst e; simpa using hv
    · simpa [e] using (hcy i hi).grown hgr

theorem feC_one {w : World} {B : Nat} {es : List Fe} {cv : Nat → Value} (h : ∀ i, i < es.length → Cyc w B (cv i) (es.getD i Fe.z).cs) : ∀ i j, i < es.length → j < 7 → (feC (es.getD i Fe.z) (cv i) j).oneCell' = true := by
  intro i j hi hj
  obtain ⟨C, cap, hv⟩ := Sl.form (h i hi)
  match j, hj with
  | 0, _ => rfl
  | 1, _ => rfl
  | 2, _ => rfl
  | 3, _ => show (cv i).oneCell' = true; rw [hv]; rfl
  | 4, _ => rfl
  | 5, _ => rfl
  | 6, _ => rfl
theorem owns_form {w : World} {base e size n : Nat} {v : Value} {xs : List Value} (h : w.ownsRow base e size v n xs) : ∃ A cap, v = .slice A n cap := by
  obtain ⟨_, ⟨h1, h2⟩ | ⟨g, cap, cur, h1, _⟩⟩ := h
  · exact ⟨none, 0, by rw [h1, h2]⟩
  · exact ⟨_, cap, h1⟩
/-- What each operation of the copy's first statement leaves. -/
def copyR (w0 : World) (gs : List Ga) (fs : List Fu) (es : List Fe) (cv : Nat → Value) (j : Nat) (v : Value) (w : World) : Prop :=
  match j with
  | 0 => w0.heap.size ≤ w.heap.size ∧ ∃ g, v = .slice (some ⟨g, 0, none⟩) 0 0 ∧ w.ownsRow w0.heap.size 23 5 v 0 []
  | 4 => w0.heap.size ≤ w.heap.size ∧ ∃ g, v = .slice (some ⟨g, 0, none⟩) 0 0 ∧ w.ownsRow w0.heap.size 30 2 v 0 []
  | 8 => w0.heap.size ≤ w.heap.size ∧ ∃ g, v = .slice (some ⟨g, 0, none⟩) 0 0 ∧ w.ownsRow w0.heap.size 74 7 v 0 []
  | 3 => w.ownsRow w0.heap.size 23 5 v gs.length (flat gs.length 5 (gaF gs))
  | 7 => w.ownsRow w0.heap.size 30 2 v fs.length (flat fs.length 2 (fuF fs))
  | 11 => w.ownsRow w0.heap.size 74 7 v es.length (flat es.length 7 (fun i j => feC (es.getD i Fe.z) (cv i) j))
  | 12 => ∃ a b c, v = .agg #[a, b, c] ∧ w.ownsRow w0.heap.size 23 5 a gs.length (flat gs.length 5 (gaF gs)) ∧ w.ownsRow w0.heap.size 30 2 b fs.length (flat fs.length 2 (fuF fs)) ∧ w.ownsRow w0.heap.size 74 7 c es.length (flat es.length 7 (fun i j => feC (es.getD i Fe.z) (cv i) j))
  | 13 => ∃ p, v = .pointer (some ⟨p, 0, none⟩) ∧ w0.heap.size ≤ p ∧ w.heap[p]? = some (.cells #[.slice none 0 0, .slice none 0 0, .slice none 0 0] 63 (0, 0))
  | _ => True
theorem copyR_keep {w0 : World} {gs : List Ga} {fs : List Fu} {es : List Fe} {cv : Nat → Value} (j : Nat) {v : Value} {w w' : World} (hb : Below w.heap.size w w') (h : copyR w0 gs fs es cv j v w) : copyR w0 gs fs es cv j v w' := by
  unfold copyR at *
  split at h
  · obtain ⟨h0, g, h1, h2⟩ := h; exact ⟨Nat.le_trans h0 hb.size, g, h1, owns_below h2 hb⟩
  · obtain ⟨h0, g, h1, h2⟩ := h; exact ⟨Nat.le_trans h0 hb.size, g, h1, owns_below h2 hb⟩
  · obtain ⟨h0, g, h1, h2⟩ := h; exact ⟨Nat.le_trans h0 hb.size, g, h1, owns_below h2 hb⟩
  · exact owns_below h hb
  · exact owns_below h hb
  · exact owns_below h hb
  · obtain ⟨a, b, c, h1, h2, h3, h4⟩ := h; exact ⟨a, b, c, h1, owns_below h2 hb, owns_below h3 hb, owns_below h4 hb⟩
  · obtain ⟨p, h1, h2, h3⟩ := h; exact ⟨p, h1, h2, heap_below h3 hb⟩
  · trivial

set_option maxRecDepth 100000 in
set_option maxHeartbeats 4000000 in
theorem Copy_any (gs : List Ga) (fs : List Fu) (es : List Fe) (gv fv ev : Value) (w : World) (hz : WSz gs fs es) (h : Wir w w.heap.size gv fv ev gs fs es) :
    Calls Try.prog 39 #[.agg #[gv, fv, ev]] w fun e w' => ∃ gv' fv' ev', e = .returned (.agg #[gv', fv', ev']) ∧ Wir w' w'.heap.size gv' fv' ev' gs fs es ∧ Below w.heap.size w w' := by
  obtain ⟨i0, hi0, hz0, hz1, hz2⟩ := info_parts infoGa
  obtain ⟨i1, hi1, hy0, hy1, hy2⟩ := info_parts infoFu
  obtain ⟨i2, hi2, hx0, hx1, hx2⟩ := info_parts infoFe
  have H := hide h
  obtain ⟨A0, cap0, rfl⟩ := Sl.form h.g
  obtain ⟨A1, cap1, rfl⟩ := Sl.form h.f
  obtain ⟨cv, hsl, hcy⟩ := h.e
  obtain ⟨A, cap, rfl⟩ := Sl.form hsl
  have HSL := hide hsl
  have HCY := hide hcy
  have HZ_ := hide hz
  have hg30 := hz.g
  have hf30 := hz.f
  have he30 := hz.e
  clear h hsl hcy hz
  go_enter Try.func39, Try.ntmps39
  go_upto_region 1 with (fail)
  generalize hw0 : World.alloc _ _ = w0
  obtain ⟨hb0, hb1, hB0, hs0⟩ := alloc2 hw0
  clear hw0
  have hwi : WiAt w0 w.heap.size (.slice A0 gs.length cap0) (.slice A1 fs.length cap1) (.slice A es.length cap) := hb0
  have HR := hide hb1
  have hl0 : w.heap.size < w0.heap.size := by omega
  clear hs0 hb1 hb0
  obtain ⟨k0, k1, k2, _⟩ := wi3 hwi (Below.refl _ w0)
  have HB0 := hide hB0
  go_cut [3] from 4 to 37 (fun p wc => ∃ pb vg vf ve, p = .pointer (some ⟨pb, 0, none⟩) ∧ w0.heap.size ≤ pb ∧ Hid (CopyX w0 wc (w.heap.size + 1) pb vg vf ve gs fs es))
  case first =>
    refine wp_region_held_drew (S := (fun w' => Below w0.heap.size w0 w')) (by kernel_rfl) ?_ (fun hHeld => ?_)
    · try dsimp only
      exact (by repeat (first | exact Below.refl _ _ | assumption | refine Below.drew ?_ | refine Below.drewN ?_ _ | refine Below.allocT ?_ (Nat.le_refl _) _ | refine Below.setCell ?_ (by simp <;> omega) _ | refine Below.to ?_ (by assumption) (Nat.le_refl _)))
    refine wpAnyH_take (i := 1) (v := ?v2_1) rfl (by kernel_rfl) (by kernel_rfl) (by kernel_rfl) (fun _ _ _ h => h) (Or.inl ⟨by rfl, ?y2_1⟩) (by assumption) ?r2_1
    case' y2_1 => (intro w hSw; (try dsimp only at hSw); (try have hlS := HLK.out _ hSw); obtain ⟨hcS, hfS⟩ := bcell hSw; clear hSw; go_simp; try with_reducible rfl)
    try simp only [Act.put, List.getElem_toArray, List.getElem_cons_succ, List.getElem_cons_zero, List.setIfInBounds_toArray, List.set_cons_zero, List.set_cons_succ]
    refine wpAnyH_take (i := 2) (v := ?v2_2) rfl (by kernel_rfl) (by kernel_rfl) (by kernel_rfl) (fun _ _ _ h => h) (Or.inl ⟨by rfl, ?y2_2⟩) (by assumption) ?r2_2
    case' y2_2 => (intro w hSw; (try dsimp only at hSw); (try have hlS := HLK.out _ hSw); obtain ⟨hcS, hfS⟩ := bcell hSw; clear hSw; go_simp; try with_reducible rfl)
    try simp only [Act.put, List.getElem_toArray, List.getElem_cons_succ, List.getElem_cons_zero, List.setIfInBounds_toArray, List.set_cons_zero, List.set_cons_succ]
    refine wpAnyH_take (i := 5) (v := ?v2_5) rfl (by kernel_rfl) (by kernel_rfl) (by kernel_rfl) (fun _ _ _ h => h) (Or.inl ⟨by rfl, ?y2_5⟩) (by assumption) ?r2_5
    case' y2_5 => (intro w hSw; (try dsimp only at hSw); (try have hlS := HLK.out _ hSw); obtain ⟨hcS, hfS⟩ := bcell hSw; clear hSw; go_simp; try with_reducible rfl)
    try simp only [Act.put, List.getElem_toArray, List.getElem_cons_succ, List.getElem_cons_zero, List.setIfInBounds_toArray, List.set_cons_zero, List.set_cons_succ]
    refine wpAnyH_take (i := 6) (v := ?v2_6) rfl (by kernel_rfl) (by kernel_rfl) (by kernel_rfl) (fun _ _ _ h => h) (Or.inl ⟨by rfl, ?y2_6⟩) (by assumption) ?r2_6
    case' y2_6 => (intro w hSw; (try dsimp only at hSw); (try have hlS := HLK.out _ hSw); obtain ⟨hcS, hfS⟩ := bcell hSw; clear hSw; go_simp; try with_reducible rfl)
    try simp only [Act.put, List.getElem_toArray, List.getElem_cons_succ, List.getElem_cons_zero, List.setIfInBounds_toArray, List.set_cons_zero, List.set_cons_succ]
    refine wpAnyH_take (i := 9) (v := ?v2_9) rfl (by kernel_rfl) (by kernel_rfl) (by kernel_rfl) (fun _ _ _ h => h) (Or.inl ⟨by rfl, ?y2_9⟩) (by assumption) ?r2_9
    case' y2_9 => (intro w hSw; (try dsimp only at hSw); (try have hlS := HLK.out _ hSw); obtain ⟨hcS, hfS⟩ := bcell hSw; clear hSw; go_simp; try with_reducible rfl)
    try simp only [Act.put, List.getElem_toArray, List.getElem_cons_succ, List.getElem_cons_zero, List.setIfInBounds_toArray, List.set_cons_zero, List.set_cons_succ]
    refine wpAnyH_take (i := 10) (v := ?v2_10) rfl (by kernel_rfl) (by kernel_rfl) (by kernel_rfl) (fun _ _ _ h => h) (Or.inl ⟨by rfl, ?y2_10⟩) (by assumption) ?r2_10
    case' y2_10 => (intro w hSw; (try dsimp only at hSw); (try have hlS := HLK.out _ hSw); obtain ⟨hcS, hfS⟩ := bcell hSw; clear hSw; go_simp; try with_reducible rfl)
    try simp only [Act.put, List.getElem_toArray, List.getElem_cons_succ, List.getElem_cons_zero, List.setIfInBounds_toArray, List.set_cons_zero, List.set_cons_succ]
    refine wpAnyH_start [0, 3, 4, 7, 8, 11, 12, 13] (fun j => match j with | 0 => 5 | 3 => 8 | 4 => 9 | 7 => 12 | 8 => 13 | 11 => 16 | 12 => 17 | 13 => 3 | _ => 0) (copyR w0 gs fs es cv) 1 rfl (by kernel_rfl) (by kernel_rfl) (by decide) (by decide) (by kernel_rfl) hHeld ?hkeep ?hstep ?hend
    case hkeep => exact fun j _ v w w' hb h => copyR_keep j hb h
    case hstep =>
      intro j hj tv w5 hS hd
      have hsz0 : w0.heap.size ≤ w5.heap.size := hS.size
      simp only [List.mem_cons, List.not_mem_nil, or_false] at hj
      rcases hj with rfl | rfl | rfl | rfl | rfl | rfl | rfl | rfl
      · refine wpOp_step rfl (fun K hK => ?_)
        generalize hax : putAll _ _ tv _ = ax at hK ⊢
        simp only [putAll, Act.put, List.setIfInBounds_toArray, List.set_cons_zero, List.set_cons_succ] at hax
        rw [← hax]
        go_simp
        exact hK _ _ ⟨⟨_, by rw [← hax]; rfl, by simp; omega, _, rfl, World.ownsRow_made w5 #[] 0 hsz0 (by unfold maxLen; omega) rfl⟩, (by repeat (first | exact Below.refl _ _ | assumption | refine Below.drew ?_ | refine Below.drewN ?_ _ | refine Below.allocT ?_ (Nat.le_refl _) _ | refine Below.setCell ?_ (by simp <;> omega) _ | refine Below.to ?_ (by assumption) (Nat.le_refl _))), (by repeat (first | exact Below.refl _ _ | assumption | refine Below.drew ?_ | refine Below.drewN ?_ _ | refine Below.allocT ?_ (Nat.le_refl _) _ | refine Below.setCell ?_ (by simp <;> omega) _ | refine Below.to ?_ (by assumption) (Nat.le_refl _)))⟩
      · obtain ⟨_, g, hg, hown⟩ := hd 0 (by decide) (by kernel_rfl)
        rw [hg] at hown
        refine wpOp_step rfl (fun K hK => ?_)
        generalize hax : putAll _ _ tv _ = ax at hK ⊢
        simp only [putAll, Act.put, List.setIfInBounds_toArray, List.set_cons_zero, List.set_cons_succ] at hax
        have evs : ax.eval (.tmp 5) = .slice (some ⟨g, 0, none⟩) 0 0 := by rw [← hax]; exact hg
        have ex := congrArg (fun a => Act.eval a (.tmp 7)) hax.symm
        refine step_append_fresh _ (by rfl) (.tmp 5) (.tmp 7) _ (by rfl) w0.heap.size 23 i0 _ 5 40 Try.underlying57 hi0 hz0 hz1 hz2 (by rfl) (by omega) g evs hown w5.heap.size A0 gs.length cap0 (flat gs.length 5 (gaF gs)) ex (Sl.reads ((Sl.below H.out.g (Below.to HB0.out hS (Nat.le_refl _))).more (by have := HB0.out.size; omega)) (by omega)) (flat_one (by omega) (gaF_one gs)) (by unfold maxLen; omega) (by omega) hsz0 ?_
        intro v' w' hown' hB'
        exact hK _ _ ⟨⟨_, rfl, hown'⟩, hB', (by repeat (first | exact Below.refl _ _ | assumption | refine Below.drew ?_ | refine Below.drewN ?_ _ | refine Below.allocT ?_ (Nat.le_refl _) _ | refine Below.setCell ?_ (by simp <;> omega) _ | refine Below.to ?_ (by assumption) (Nat.le_refl _)))⟩
      · refine wpOp_step rfl (fun K hK => ?_)
        generalize hax : putAll _ _ tv _ = ax at hK ⊢
        simp only [putAll, Act.put, List.setIfInBounds_toArray, List.set_cons_zero, List.set_cons_succ] at hax
        rw [← hax]
        go_simp
        exact hK _ _ ⟨⟨_, by rw [← hax]; rfl, by simp; omega, _, rfl, World.ownsRow_made w5 #[] 0 hsz0 (by unfold maxLen; omega) rfl⟩, (by repeat (first | exact Below.refl _ _ | assumption | refine Below.drew ?_ | refine Below.drewN ?_ _ | refine Below.allocT ?_ (Nat.le_refl _) _ | refine Below.setCell ?_ (by simp <;> omega) _ | refine Below.to ?_ (by assumption) (Nat.le_refl _))), (by repeat (first | exact Below.refl _ _ | assumption | refine Below.drew ?_ | refine Below.drewN ?_ _ | refine Below.allocT ?_ (Nat.le_refl _) _ | refine Below.setCell ?_ (by simp <;> omega) _ | refine Below.to ?_ (by assumption) (Nat.le_refl _)))⟩
      · obtain ⟨_, g, hg, hown⟩ := hd 4 (by decide) (by kernel_rfl)
        rw [hg] at hown
        refine wpOp_step rfl (fun K hK => ?_)
        generalize hax : putAll _ _ tv _ = ax at hK ⊢
        simp only [putAll, Act.put, List.setIfInBounds_toArray, List.set_cons_zero, List.set_cons_succ] at hax
        have evs : ax.eval (.tmp 9) = .slice (some ⟨g, 0, none⟩) 0 0 := by rw [← hax]; exact hg
        have ex := congrArg (fun a => Act.eval a (.tmp 11)) hax.symm
        refine step_append_fresh _ (by rfl) (.tmp 9) (.tmp 11) _ (by rfl) w0.heap.size 30 i1 _ 2 16 Try.underlying60 hi1 hy0 hy1 hy2 (by rfl) (by omega) g evs hown w5.heap.size A1 fs.length cap1 (flat fs.length 2 (fuF fs)) ex (Sl.reads ((Sl.below H.out.f (Below.to HB0.out hS (Nat.le_refl _))).more (by have := HB0.out.size; omega)) (by omega)) (flat_one (by omega) (fuF_one fs)) (by unfold maxLen; omega) (by omega) hsz0 ?_
        intro v' w' hown' hB'
        exact hK _ _ ⟨⟨_, rfl, hown'⟩, hB', (by repeat (first | exact Below.refl _ _ | assumption | refine Below.drew ?_ | refine Below.drewN ?_ _ | refine Below.allocT ?_ (Nat.le_refl _) _ | refine Below.setCell ?_ (by simp <;> omega) _ | refine Below.to ?_ (by assumption) (Nat.le_refl _)))⟩
      · refine wpOp_step rfl (fun K hK => ?_)
        generalize hax : putAll _ _ tv _ = ax at hK ⊢
        simp only [putAll, Act.put, List.setIfInBounds_toArray, List.set_cons_zero, List.set_cons_succ] at hax
        rw [← hax]
        go_simp
        exact hK _ _ ⟨⟨_, by rw [← hax]; rfl, by simp; omega, _, rfl, World.ownsRow_made w5 #[] 0 hsz0 (by unfold maxLen; omega) rfl⟩, (by repeat (first | exact Below.refl _ _ | assumption | refine Below.drew ?_ | refine Below.drewN ?_ _ | refine Below.allocT ?_ (Nat.le_refl _) _ | refine Below.setCell ?_ (by simp <;> omega) _ | refine Below.to ?_ (by assumption) (Nat.le_refl _))), (by repeat (first | exact Below.refl _ _ | assumption | refine Below.drew ?_ | refine Below.drewN ?_ _ | refine Below.allocT ?_ (Nat.le_refl _) _ | refine Below.setCell ?_ (by simp <;> omega) _ | refine Below.to ?_ (by assumption) (Nat.le_refl _)))⟩
      · obtain ⟨_, g, hg, hown⟩ := hd 8 (by decide) (by kernel_rfl)
        rw [hg] at hown
        refine wpOp_step rfl (fun K hK => ?_)
        generalize hax : putAll _ _ tv _ = ax at hK ⊢
        simp only [putAll, Act.put, List.setIfInBounds_toArray, List.set_cons_zero, List.set_cons_succ] at hax
        have evs : ax.eval (.tmp 13) = .slice (some ⟨g, 0, none⟩) 0 0 := by rw [← hax]; exact hg
        have ex := congrArg (fun a => Act.eval a (.tmp 15)) hax.symm
        refine step_append_fresh _ (by rfl) (.tmp 13) (.tmp 15) _ (by rfl) w0.heap.size 74 i2 _ 7 72 Try.underlying61 hi2 hx0 hx1 hx2 (by rfl) (by omega) g evs hown w5.heap.size A es.length cap (flat es.length 7 (fun i j => feC (es.getD i Fe.z) (cv i) j)) ex (Sl.reads ((Sl.below HSL.out (Below.to HB0.out hS (Nat.le_refl _))).more (by have := HB0.out.size; omega)) (by omega)) (flat_one' (by omega) (feC_one HCY.out)) (by unfold maxLen; omega) (by omega) hsz0 ?_
        intro v' w' hown' hB'
        exact hK _ _ ⟨⟨_, rfl, hown'⟩, hB', (by repeat (first | exact Below.refl _ _ | assumption | refine Below.drew ?_ | refine Below.drewN ?_ _ | refine Below.allocT ?_ (Nat.le_refl _) _ | refine Below.setCell ?_ (by simp <;> omega) _ | refine Below.to ?_ (by assumption) (Nat.le_refl _)))⟩
      · have h3 := hd 3 (by decide) (by kernel_rfl)
        have h7 := hd 7 (by decide) (by kernel_rfl)
        have h11 := hd 11 (by decide) (by kernel_rfl)
        have HD := hide (And.intro h3 (And.intro h7 h11))
        obtain ⟨A3, c3, e3⟩ := owns_form h3
        obtain ⟨A7, c7, e7⟩ := owns_form h7
        obtain ⟨A11, c11, e11⟩ := owns_form h11
        rw [e3, e7, e11] at HD
        clear hd h3 h7 h11
        refine wpOp_step rfl (fun K hK => ?_)
        generalize hax : putAll _ _ tv _ = ax at hK ⊢
        simp only [putAll, Act.put, List.setIfInBounds_toArray, List.set_cons_zero, List.set_cons_succ, e3, e7, e11] at hax
        rw [← hax]
        go_simp
        exact hK _ _ ⟨⟨_, by rw [← hax]; rfl, _, _, _, rfl, HD.out.1, HD.out.2.1, HD.out.2.2⟩, (by repeat (first | exact Below.refl _ _ | assumption | refine Below.drew ?_ | refine Below.drewN ?_ _ | refine Below.allocT ?_ (Nat.le_refl _) _ | refine Below.setCell ?_ (by simp <;> omega) _ | refine Below.to ?_ (by assumption) (Nat.le_refl _))), (by repeat (first | exact Below.refl _ _ | assumption | refine Below.drew ?_ | refine Below.drewN ?_ _ | refine Below.allocT ?_ (Nat.le_refl _) _ | refine Below.setCell ?_ (by simp <;> omega) _ | refine Below.to ?_ (by assumption) (Nat.le_refl _)))⟩
      · refine wpOp_step rfl (fun K hK => ?_)
        generalize hax : putAll _ _ tv _ = ax at hK ⊢
        simp only [putAll, Act.put, List.setIfInBounds_toArray, List.set_cons_zero, List.set_cons_succ] at hax
        rw [← hax]
        go_simp
        exact hK _ _ ⟨⟨_, by rw [← hax]; rfl, _, rfl, hsz0, heap_alloc_new _ _⟩, (by repeat (first | exact Below.refl _ _ | assumption | refine Below.drew ?_ | refine Below.drewN ?_ _ | refine Below.allocT ?_ (Nat.le_refl _) _ | refine Below.setCell ?_ (by simp <;> omega) _ | refine Below.to ?_ (by assumption) (Nat.le_refl _))), (by repeat (first | exact Below.refl _ _ | assumption | refine Below.drew ?_ | refine Below.drewN ?_ _ | refine Below.allocT ?_ (Nat.le_refl _) _ | refine Below.setCell ?_ (by simp <;> omega) _ | refine Below.to ?_ (by assumption) (Nat.le_refl _)))⟩
    case hend =>
      intro tv w5 hS hR
      obtain ⟨a, b, c, h12, hg, hf, he⟩ := hR 12 (by decide)
      obtain ⟨p, h13, hp, hpb⟩ := hR 13 (by decide)
      clear hR
      obtain ⟨A3, c3, rfl⟩ := owns_form hg
      obtain ⟨A7, c7, rfl⟩ := owns_form hf
      obtain ⟨A11, c11, rfl⟩ := owns_form he
      have p0 : w5.cell? ⟨p, 0, none⟩ = _ := cellOf hpb 0
      have p1 : w5.cell? ⟨p, 1, none⟩ = _ := cellOf hpb 1
      have p2 : w5.cell? ⟨p, 2, none⟩ = _ := cellOf hpb 2
      have q0 := unfrozenOf hpb 0
      have q1 := unfrozenOf hpb 1
      have q2 := unfrozenOf hpb 2
      have HG := hide hg
      have HF := hide hf
      have HE := hide he
      have HP := hide hpb
      have hlp := box_lt hpb
      clear hg hf he hpb
      simp only [putAll, Act.put, List.setIfInBounds_toArray, List.set_cons_zero, List.set_cons_succ, h12, h13]
      refine wpAnyH_ready (rs := [14]) (by kernel_rfl) (by simp) ?_
      refine AllReadyH.cons rfl (fun K hK => ?_) AllReadyH.nil
      go_simp
      have hne : ∀ g, g < w0.heap.size → g ≠ p := fun g hg => by omega
      have hgr : w5.grownBy (((w5.setCell ⟨p, 0, none⟩ (.slice A3 gs.length c3)).setCell ⟨p, 1, none⟩ (.slice A7 fs.length c7)).setCell ⟨p, 2, none⟩ (.slice A11 es.length c11)) (some p) := by
        refine only_setCell (only_setCell (only_setCell (only_refl _ _) ?_ _) ?_ _) ?_ _
        all_goals exact .inl rfl
      have hbw : Below w0.heap.size w0 (((w5.setCell ⟨p, 0, none⟩ (.slice A3 gs.length c3)).setCell ⟨p, 1, none⟩ (.slice A7 fs.length c7)).setCell ⟨p, 2, none⟩ (.slice A11 es.length c11)) := by
        refine Below.setCell (Below.setCell (Below.setCell hS ?_ _) ?_ _) ?_ _
        all_goals exact hp
      refine hK.out _ _ ?_ (fun hNext => ?_)
      · exact hbw
      · clear hK K
        refine wpAnyH_done (by kernel_rfl) ?_ _
        go_wp2_with fail
        go_meet
        case rel =>
          have hf3 : ∀ {e sz n : Nat} {v : Value} {xs : List Value}, e ≠ 63 → w5.ownsRow w0.heap.size e sz v n xs → (((w5.setCell ⟨p, 0, none⟩ (.slice A3 gs.length c3)).setCell ⟨p, 1, none⟩ (.slice A7 fs.length c7)).setCell ⟨p, 2, none⟩ (.slice A11 es.length c11)).ownsRow w0.heap.size e sz v n xs := fun hne h => owns_grown h hgr HP.out hne
          refine ⟨p, _, _, _, rfl, hp, setCellOf (setCellOf (setCellOf HP.out _) _) _, hf3 (by decide) HG.out, hf3 (by decide) HF.out, ?_, hbw⟩
          have he2 := hf3 (by decide) HE.out
          rcases Nat.eq_zero_or_pos es.length with h0 | h0
          · refine .inl ⟨h0, ?_⟩
            rcases he2.2 with ⟨h1, _⟩ | ⟨g, cp, cur, h1, _⟩
            · exact ⟨none, 0, h1⟩
            · exact ⟨_, cp, by rw [h1, h0]⟩
          · rcases he2.2 with ⟨_, h1⟩ | ⟨g, cp, cur, h1, h2, h3, h4, _, h5, h6⟩
            · omega
            · have hcells : ∀ i j, i < es.length → j < 7 → cur[i * 7 + j]? = some (feC (es.getD i Fe.z) (cv i) j) := fun i j hi hj => by
                have hx := flat_get (f := fun i j => feC (es.getD i Fe.z) (cv i) j) hi hj
                rw [← h6, List.getElem?_take, if_pos (idx_lt hi hj)] at hx
                simpa using hx
              exact .inr ⟨g, cp, cur, cv, h1, h4, h2, h3, by rw [h5]; exact Nat.mul_le_mul_right _ h4, hcells, fun i hi => CycX.of (Sl.more (Sl.below (HCY.out i hi) (Below.to HB0.out hbw (Nat.le_refl _))) (Nat.le_refl _)) (by have := HB0.out.size; have := hbw.size; omega) (by have := HB0.out.size; omega) (by omega)⟩
  case rest =>
    obtain ⟨pb, vg, vf, ve, rfl, hpb, hX⟩ := hcut
    clear k0 k1 k2
    obtain ⟨Ag, cpg, rfl⟩ := owns_form hX.out.g
    obtain ⟨Af, cpf, rfl⟩ := owns_form hX.out.f
    obtain ⟨Ae, cpe, rfl⟩ := hX.out.e.form
    go_wp2_with fail
    go_loopw [4] (fun i wr => ∃ k : Nat, k ≤ es.length ∧ i = .int .i64 k ∧ Hid (CopyX w0 wr (w.heap.size + 1) pb (.slice Ag gs.length cpg) (.slice Af fs.length cpf) (.slice Ae es.length cpe) gs fs es)) (fun i _ => es.length - (intOf i).toNat)
    case atStart => exact ⟨0, Nat.zero_le _, rfl, hX.out⟩
    case round =>
      obtain ⟨k, hk, rfl, hX2⟩ := hrel
      clear hX
      have hbox := hX2.out.box
      have j0 : wr.cell? ⟨pb, 0, none⟩ = some (.slice Ag gs.length cpg) := cellOf hbox 0
      have j1 : wr.cell? ⟨pb, 1, none⟩ = some (.slice Af fs.length cpf) := cellOf hbox 1
      have j2 : wr.cell? ⟨pb, 2, none⟩ = some (.slice Ae es.length cpe) := cellOf hbox 2
      have HBX := hide hbox
      have hlpb : pb < wr.heap.size := box_lt hbox
      clear hbox
      by_cases hlt : k < es.length
      · rcases hX2.out.e with ⟨h0, _⟩ | ⟨g, cap', C, cv', hv, hn, hg, hh, hs, hc, hcy⟩
        · omega
        · injection hv with e1 e2 e3
          subst e1 e3
          have hne : pb ≠ g := fun e => by
            subst e
            have := HBX.out.symm.trans hh
            injection this with this
            injection this with _ this
            exact absurd this (by decide)
          have hlg : g < wr.heap.size := box_lt hh
          obtain ⟨f, hf⟩ : ∃ f, es.getD k Fe.z = f := ⟨_, rfl⟩
          have hck := fun j (hj : j < 7) => hc k j hlt hj
          rw [hf] at hck
          have hyk := hcy k hlt
          rw [hf] at hyk
          obtain ⟨C1, b1, o1, cp1, hv1, hrest⟩ := hyk
          have HYK : Hid (CycX wr g (w.heap.size + 1) (cv' k) f.cs) := by have := hcy k hlt; rw [hf] at this; exact this
          rw [hv1] at HYK
          have c3 := hck 3 (by omega)
          rw [show feC f (cv' k) 3 = cv' k from rfl, hv1] at c3
          have c4 := hck 4 (by omega)
          have c5 := hck 5 (by omega)
          have c6 := hck 6 (by omega)
          have HN20 : Hid (f.cs.length ≤ 20) := by show _; have := HZ_.out.c k hlt; rw [hf] at this; exact this
          have HHF := hide hf
          have HC := hide hc
          have HCV := hide hcy
          have HH := hide hh
          have g3 : wr.cell? ⟨g, k * 7 + 3, none⟩ = some (.slice C1 f.cs.length cp1) := (cellOf hh _).trans c3
          have g4 : wr.cell? ⟨g, k * 7 + 3 + 1, none⟩ = some (.int .i64 f.n.len) := (cellOf hh _).trans c4
          have g5 : wr.cell? ⟨g, k * 7 + 3 + 2, none⟩ = some (.int .i64 f.n.drop) := (cellOf hh _).trans c5
          have g6 : wr.cell? ⟨g, k * 7 + 3 + 3, none⟩ = some (.int .i64 f.n.amb) := (cellOf hh _).trans c6
          have HC3 := hide c3
          have HC4 := hide c4
          have HC5 := hide c5
          have HC6 := hide c6
          clear hrest hv1 hck hf hc hcy hh c3 c4 c5 c6
          have hi0 : (0 : Int) ≤ (k : Int) := by omega
          have hi1 : (k : Int) < (es.length : Int) := by omega
          go_wp2_with fail
          refine wp_region_held_drew (S := (fun w' => wr.grownBy w' (some g))) (by kernel_rfl) ?_ (fun hHeld => ?_)
          · try dsimp only
            (first | exact only_refl _ _ | assumption | exact only_drew (only_refl _ _) | exact hKeep.out | exact only_drew (by assumption) | (refine only_trans hKeep.out ?_; refine only_setCell (only_setCell (only_setCell (only_setCell (only_refl _ _) ?_ _) ?_ _) ?_ _) ?_ _ <;> exact .inl rfl) | (refine only_trans hKeep.out ?_; refine only_setCell (only_refl _ _) ?_ _; exact .inl rfl))
          refine wpAnyH_take (i := 0) (v := ?v1_0) rfl (by kernel_rfl) (by kernel_rfl) (by kernel_rfl) (fun _ _ _ h => h) (Or.inl ⟨by rfl, ?y1_0⟩) (by assumption) ?r1_0
          case' y1_0 => (intro w hSw; (try dsimp only at hSw); have hcS := gcell hSw; clear hSw; go_simp; try with_reducible rfl)
          try simp only [Act.put, List.getElem_toArray, List.getElem_cons_succ, List.getElem_cons_zero, List.setIfInBounds_toArray, List.set_cons_zero, List.set_cons_succ]
          refine wpAnyH_take (i := 1) (v := ?v1_1) rfl (by kernel_rfl) (by kernel_rfl) (by kernel_rfl) (fun _ _ _ h => h) (Or.inl ⟨by rfl, ?y1_1⟩) (by assumption) ?r1_1
          case' y1_1 => (intro w hSw; (try dsimp only at hSw); have hcS := gcell hSw; clear hSw; go_simp; try with_reducible rfl)
          try simp only [Act.put, List.getElem_toArray, List.getElem_cons_succ, List.getElem_cons_zero, List.setIfInBounds_toArray, List.set_cons_zero, List.set_cons_succ]
          refine wpAnyH_take (i := 2) (v := ?v1_2) rfl (by kernel_rfl) (by kernel_rfl) (by kernel_rfl) (fun _ _ _ h => h) (Or.inl ⟨by rfl, ?y1_2⟩) (by assumption) ?r1_2
          case' y1_2 => (intro w hSw; (try dsimp only at hSw); have hcS := gcell hSw; clear hSw; go_simp; try with_reducible rfl)
          try simp only [Act.put, List.getElem_toArray, List.getElem_cons_succ, List.getElem_cons_zero, List.setIfInBounds_toArray, List.set_cons_zero, List.set_cons_succ]
          refine wpAnyH_take (i := 3) (v := ?v1_3) rfl (by kernel_rfl) (by kernel_rfl) (by kernel_rfl) (fun _ _ _ h => h) (Or.inl ⟨by rfl, ?y1_3⟩) (by assumption) ?r1_3
          case' y1_3 => (intro w hSw; (try dsimp only at hSw); have hcS := gcell hSw; clear hSw; go_simp; try with_reducible rfl)
          try simp only [Act.put, List.getElem_toArray, List.getElem_cons_succ, List.getElem_cons_zero, List.setIfInBounds_toArray, List.set_cons_zero, List.set_cons_succ]
          refine wpAnyH_take (i := 4) (v := ?v1_4) rfl (by kernel_rfl) (by kernel_rfl) (by kernel_rfl) (fun _ _ _ h => h) (Or.inl ⟨by rfl, ?y1_4⟩) (by assumption) ?r1_4
          case' y1_4 => (intro w hSw; (try dsimp only at hSw); have hcS := gcell hSw; clear hSw; go_simp; try with_reducible rfl)
          try simp only [Act.put, List.getElem_toArray, List.getElem_cons_succ, List.getElem_cons_zero, List.setIfInBounds_toArray, List.set_cons_zero, List.set_cons_succ]
          refine wpAnyH_take (i := 5) (v := ?v1_5) rfl (by kernel_rfl) (by kernel_rfl) (by kernel_rfl) (fun _ _ _ h => h) (Or.inl ⟨by rfl, ?y1_5⟩) (by assumption) ?r1_5
          case' y1_5 => (intro w hSw; (try dsimp only at hSw); have hcS := gcell hSw; clear hSw; go_simp; try with_reducible rfl)
          try simp only [Act.put, List.getElem_toArray, List.getElem_cons_succ, List.getElem_cons_zero, List.setIfInBounds_toArray, List.set_cons_zero, List.set_cons_succ]
          refine wpAnyH_take (i := 6) (v := ?v1_6) rfl (by kernel_rfl) (by kernel_rfl) (by kernel_rfl) (fun _ _ _ h => h) (Or.inl ⟨by rfl, ?y1_6⟩) (by assumption) ?r1_6
          case' y1_6 => (intro w hSw; (try dsimp only at hSw); have hcS := gcell hSw; clear hSw; go_simp; try with_reducible rfl)
          try simp only [Act.put, List.getElem_toArray, List.getElem_cons_succ, List.getElem_cons_zero, List.setIfInBounds_toArray, List.set_cons_zero, List.set_cons_succ]
          refine wpAnyH_take (i := 7) (v := ?v1_7) rfl (by kernel_rfl) (by kernel_rfl) (by kernel_rfl) (fun _ _ _ h => h) (Or.inl ⟨by rfl, ?y1_7⟩) (by assumption) ?r1_7
          case' y1_7 => (intro w hSw; (try dsimp only at hSw); have hcS := gcell hSw; clear hSw; go_simp; try with_reducible rfl)
          try simp only [Act.put, List.getElem_toArray, List.getElem_cons_succ, List.getElem_cons_zero, List.setIfInBounds_toArray, List.set_cons_zero, List.set_cons_succ]
          refine wpAnyH_ready (rs := [8]) (by kernel_rfl) (by simp) ?_
          refine AllReadyH.cons rfl (fun K hK => ?_) AllReadyH.nil
          go_simp
          refine hK.out _ _ ?_ (fun hNext => ?_)
          · try dsimp only
            (first | exact only_refl _ _ | assumption | exact only_drew (only_refl _ _) | exact hKeep.out | exact only_drew (by assumption) | (refine only_trans hKeep.out ?_; refine only_setCell (only_setCell (only_setCell (only_setCell (only_refl _ _) ?_ _) ?_ _) ?_ _) ?_ _ <;> exact .inl rfl) | (refine only_trans hKeep.out ?_; refine only_setCell (only_refl _ _) ?_ _; exact .inl rfl))
          clear hK K hHeld
          have hHeld := hNext
          clear hNext
          (try dsimp only at hHeld)
          try simp only [Act.put, List.getElem_toArray, List.getElem_cons_succ, List.getElem_cons_zero, List.setIfInBounds_toArray, List.set_cons_zero, List.set_cons_succ]
          refine wpAnyH_ready (rs := [9]) (by kernel_rfl) (by simp) ?_
          refine AllReadyH.cons rfl (fun K hK => ?_) AllReadyH.nil
          go_simp
          ((go_at_call 32; refine (copyNeed_own f.n _ f.cs wr.drew HN20.out (show Cyc wr.drew wr.drew.heap.size _ _ from HYK.out.cyc)).mono ?_; rintro e w1 ⟨v1, rfl, ho1, hB1⟩; have HB1 : Hid (Below wr.heap.size wr w1) := ⟨hB1.os, hB1.tape, hB1.output, hB1.size, hB1.block⟩; have HO1 : Hid (w1.ownsRow wr.heap.size 54 2 v1 f.cs.length (flat f.cs.length 2 (cyF f.cs))) := ho1; have hKeep : Hid (wr.grownBy w1 (some g)) := grown_of_below HB1.out; obtain ⟨A2, cp2, rfl⟩ := owns_form ho1; have hh1 := heap_below HH.out HB1.out; have s3 := (cellOf hh1 (k * 7 + 3)).trans HC3.out; have s4 := (cellOf hh1 (k * 7 + 3 + 1)).trans HC4.out; have s5 := (cellOf hh1 (k * 7 + 3 + 2)).trans HC5.out; have s6 := (cellOf hh1 (k * 7 + 3 + 3)).trans HC6.out; have t3 := unfrozenOf hh1 (k * 7 + 3); have t4 := unfrozenOf hh1 (k * 7 + 3 + 1); have t5 := unfrozenOf hh1 (k * 7 + 3 + 2); have t6 := unfrozenOf hh1 (k * 7 + 3 + 3); have HH1 := hide hh1; clear hh1 ho1 hB1))
          (try dsimp only)
          refine hK.out _ _ ?_ (fun hNext => ?_)
          · try dsimp only
            (first | exact only_refl _ _ | assumption | exact only_drew (only_refl _ _) | exact hKeep.out | exact only_drew (by assumption) | (refine only_trans hKeep.out ?_; refine only_setCell (only_setCell (only_setCell (only_setCell (only_refl _ _) ?_ _) ?_ _) ?_ _) ?_ _ <;> exact .inl rfl) | (refine only_trans hKeep.out ?_; refine only_setCell (only_refl _ _) ?_ _; exact .inl rfl))
          clear hK K hHeld
          have hHeld := hNext
          clear hNext
          (try dsimp only at hHeld)
          try simp only [Act.put, List.getElem_toArray, List.getElem_cons_succ, List.getElem_cons_zero, List.setIfInBounds_toArray, List.set_cons_zero, List.set_cons_succ]
          refine wpAnyH_take (i := 10) (v := ?v1_10) rfl (by kernel_rfl) (by kernel_rfl) (by kernel_rfl) (fun _ _ _ h => h) (Or.inl ⟨by rfl, ?y1_10⟩) (by assumption) ?r1_10
          case' y1_10 => (intro w hSw; (try dsimp only at hSw); have hcS := gcell hSw; clear hSw; go_simp; try with_reducible rfl)
          try simp only [Act.put, List.getElem_toArray, List.getElem_cons_succ, List.getElem_cons_zero, List.setIfInBounds_toArray, List.set_cons_zero, List.set_cons_succ]
          refine wpAnyH_take (i := 11) (v := ?v1_11) rfl (by kernel_rfl) (by kernel_rfl) (by kernel_rfl) (fun _ _ _ h => h) (Or.inl ⟨by rfl, ?y1_11⟩) (by assumption) ?r1_11
          case' y1_11 => (intro w hSw; (try dsimp only at hSw); have hcS := gcell hSw; clear hSw; go_simp; try with_reducible rfl)
          try simp only [Act.put, List.getElem_toArray, List.getElem_cons_succ, List.getElem_cons_zero, List.setIfInBounds_toArray, List.set_cons_zero, List.set_cons_succ]
          refine wpAnyH_ready (rs := [12]) (by kernel_rfl) (by simp) ?_
          refine AllReadyH.cons rfl (fun K hK => ?_) AllReadyH.nil
          go_simp
          refine hK.out _ _ ?_ (fun hNext => ?_)
          · try dsimp only
            (first | exact only_refl _ _ | assumption | exact only_drew (only_refl _ _) | exact hKeep.out | exact only_drew (by assumption) | (refine only_trans hKeep.out ?_; refine only_setCell (only_setCell (only_setCell (only_setCell (only_refl _ _) ?_ _) ?_ _) ?_ _) ?_ _ <;> exact .inl rfl) | (refine only_trans hKeep.out ?_; refine only_setCell (only_refl _ _) ?_ _; exact .inl rfl))
          clear hK K hHeld
          have hHeld := hNext
          clear hNext
          (try dsimp only at hHeld)
          try simp only [Act.put, List.getElem_toArray, List.getElem_cons_succ, List.getElem_cons_zero, List.setIfInBounds_toArray, List.set_cons_zero, List.set_cons_succ]
          refine wpAnyH_done (by kernel_rfl) ?_ _
          generalize hwz : World.setCell _ _ _ = wz at hHeld ⊢
          have hhz := setCellOf (i := k * 7 + 3 + 3) (setCellOf (i := k * 7 + 3 + 2) (setCellOf (i := k * 7 + 3 + 1) (setCellOf (i := k * 7 + 3) HH1.out (.slice A2 f.cs.length cp2)) (.int .i64 f.n.len)) (.int .i64 f.n.drop)) (.int .i64 f.n.amb)
          rw [hwz] at hhz
          have hg1z : w1.grownBy wz (some g) := by
            rw [← hwz]
            refine only_setCell (only_setCell (only_setCell (only_setCell (only_refl _ _) ?_ _) ?_ _) ?_ _) ?_ _
            all_goals exact .inl rfl
          have hbz : Below w0.heap.size w0 wz := by
            rw [← hwz]
            refine Below.setCell (Below.setCell (Below.setCell (Below.setCell (Below.to hX2.out.below HB1.out (Nat.le_refl _)) ?_ _) ?_ _) ?_ _) ?_ _
            all_goals exact hg
          have hwzg : wr.grownBy wz (some g) := only_trans hKeep.out hg1z
          have hCX : CopyX w0 wz (w.heap.size + 1) pb (.slice Ag gs.length cpg) (.slice Af fs.length cpf) (.slice (some ⟨g, 0, none⟩) es.length cpe) gs fs es :=
            ⟨(hwzg.block pb hlpb (fun e => hne (by injection e))).trans HBX.out, owns_grown hX2.out.g hwzg HH.out (by decide), owns_grown hX2.out.f hwzg HH.out (by decide),
              FesX.step hlt hn hg hs HC.out HCV.out hwzg (by rw [HHF.out]; exact (CycX.owned HO1.out hlg (by have := hX2.out.below.size; have := box_lt HR.out; omega)).grown hg1z) HHF.out hhz, hbz⟩
          have HCX := hide hCX
          clear hCX hhz hg1z hbz hwzg hwz
          go_wp2_with fail
          go_roundw
          case rel => exact ⟨k + 1, by omega, by go_num, HCX.out⟩
          case measure => simp [intOf]; omega
      · have hl1 : w.heap.size + 1 < w0.heap.size := box_lt HR.out
        have hr := heap_below HR.out hX2.out.below
        have r0 := cellOf hr 0
        have r1 := cellOf hr 1
        have r2 := cellOf hr 2
        have q0 := unfrozenOf hr 0
        have q1 := unfrozenOf hr 1
        have q2 := unfrozenOf hr 2
        have HRR := hide hr
        clear hr
        have hne : ¬ pb = w.heap.size + 1 := by omega
        go_wp2_with fail
        generalize hwz : World.setCell _ _ _ = wz
        have hhz := setCellOf (i := 2) (setCellOf (i := 1) (setCellOf (i := 0) HRR.out (.slice Ag gs.length cpg)) (.slice Af fs.length cpf)) (.slice Ae es.length cpe)
        rw [hwz] at hhz
        have hgz : wr.grownBy wz (some (w.heap.size + 1)) := by
          rw [← hwz]
          refine only_setCell (only_setCell (only_setCell (only_refl _ _) ?_ _) ?_ _) ?_ _
          all_goals exact .inl rfl
        have hbz : Below w.heap.size w wz := by
          rw [← hwz]
          refine Below.setCell (Below.setCell (Below.setCell (Below.to HB0.out hX2.out.below (Nat.le_refl _)) ?_ _) ?_ _) ?_ _
          all_goals (show _ ≤ w.heap.size + 1; omega)
        have hW : Wir wz wz.heap.size (.slice Ag gs.length cpg) (.slice Af fs.length cpf) (.slice Ae es.length cpe) gs fs es :=
          wir_of (owns_grown hX2.out.g hgz HRR.out (by decide)) (owns_grown hX2.out.f hgz HRR.out (by decide)) (hX2.out.e.grownx hgz (by omega))
        have z0 := cellOf hhz 0
        have z1 := cellOf hhz 1
        have z2 := cellOf hhz 2
        clear r0 r1 r2 q0 q1 q2 j0 j1 j2 hgz hwz hhz
        have HW := hide hW
        have HBZ := hide hbz
        clear hW hbz
        refine bodyPost_ret (v := .agg #[.slice Ag gs.length cpg, .slice Af fs.length cpf, .slice Ae es.length cpe]) ?_ rfl ⟨_, _, _, rfl, HW.out, HBZ.out⟩
        rw [results_cell1 rfl]
        go_simp
end Go.Proofs.Ytejjjijaojkohaa
/- What opens in a short circuit: the program's walk. -/
namespace Go.Proofs.Ytejjjijaojkohaa
open Go.RowKit
set_option linter.unusedVariables false
set_option linter.unusedSimpArgs false
theorem infoIt : (Try.prog.info? 3).map (fun i => (i.zero, i.size, i.bytes)) = some (some (.int .i64 0), 1, 8) := by kernel_rfl
def natV (l : List Nat) : List Value := l.map fun (n : Nat) => .int .i64 (n : Int)
theorem natV_ints (l : List Nat) : natV l = (l.map fun (n : Nat) => (n : Int)).map (Value.int .i64) := by simp [natV]
theorem results_tmp4 {fn : Func} {t u v x : Tmp} (h : fn.results = #[.tmp t, .tmp u, .tmp v, .tmp x]) (tmps : Array Value) (P : Program) (w : World) :
    (results fn tmps).run P w = .ok (.tuple #[tmps.getD t undef, tmps.getD u undef, tmps.getD v undef, tmps.getD x undef]) w := by
  simp [results, h]
/-- The list of whole numbers that a slice holds. -/
def ShL (w : World) (v : Value) (l : List Nat) : Prop := Sl w w.heap.size 1 v l.length fun i _ => .int .i64 (l.getD i 0 : Nat)
theorem ShL.of {w : World} {base : Nat} {v : Value} {l : List Nat} (h : w.ownsRow base 3 1 v l.length (natV l)) : ShL w v l :=
  Sl.of_owns h fun i j hi hj => by
    obtain rfl : j = 0 := by omega
    rw [Nat.mul_one, Nat.add_zero]
    simp [natV, hi]
/-- What Short answers. -/
def shErr (gs : List Ga) (fs : List Fu) (es : List Fe) (feeder amps : Int) : Int :=
  if chkErr gs fs es = 0 then (if fromB feeder 0 ((es.length : Int) - 1) && fromB amps 0 500 then 0 else 1) else chkErr gs fs es
def shAns (gs : List Ga) (fs : List Fu) (es : List Fe) (feeder amps : Int) : Sh :=
  if shErr gs fs es feeder amps = 0 then ⟨(shOf fs es amps feeder.toNat).l.reverse, (shOf fs es amps feeder.toNat).num, (shOf fs es amps feeder.toNat).den⟩ else Sh.z
theorem ShOk.range {amps : Int} (h0 : 0 ≤ amps) (h1 : amps ≤ 500) {s : Sh} (h : ShOk amps s) : 0 ≤ s.num ∧ s.num ≤ 1000000 ∧ 0 ≤ s.den ∧ s.den ≤ 250000 := by
  rcases h with ⟨e1, e2⟩ | ⟨f, hf, e1, e2, _⟩
  · omega
  · have := blow_range hf h0 h1
    omega
theorem step_c1 {fs : List Fu} {es : List Fe} {amps : Int} {s : Sh} {i : Nat} {a b : Int} (ha : blowNum (fuOf fs es i) amps = a) (hb : blowDen (fuOf fs es i) amps = b) (h : b = 0 ∨ (0 < s.den ∧ s.num * b < a * s.den)) : stepS fs es amps s i = s := by
  subst ha hb
  unfold stepS
  rw [if_pos h]
theorem step_c2 {fs : List Fu} {es : List Fe} {amps : Int} {s : Sh} {i : Nat} {a b : Int} (ha : blowNum (fuOf fs es i) amps = a) (hb : blowDen (fuOf fs es i) amps = b) (h : ¬ (b = 0 ∨ (0 < s.den ∧ s.num * b < a * s.den))) (h2 : s.den = 0 ∨ a * s.den < s.num * b) : stepS fs es amps s i = ⟨[i], a, b⟩ := by
  subst ha hb
  unfold stepS
  rw [if_neg h, if_pos h2]
theorem step_c3 {fs : List Fu} {es : List Fe} {amps : Int} {s : Sh} {i : Nat} {a b : Int} (ha : blowNum (fuOf fs es i) amps = a) (hb : blowDen (fuOf fs es i) amps = b) (h : ¬ (b = 0 ∨ (0 < s.den ∧ s.num * b < a * s.den))) (h2 : ¬ (s.den = 0 ∨ a * s.den < s.num * b)) : stepS fs es amps s i = ⟨s.l ++ [i], s.num, s.den⟩ := by
  subst ha hb
  unfold stepS
  rw [if_neg h, if_neg h2]

set_option maxRecDepth 100000 in
set_option maxHeartbeats 8000000 in
theorem Short_any (gs : List Ga) (fs : List Fu) (es : List Fe) (gv fv ev : Value) (feeder amps : Int) (w : World) (hz : WSz gs fs es) (h : Wir w w.heap.size gv fv ev gs fs es) :
    Calls Try.prog 45 #[.agg #[gv, fv, ev], .int .i64 feeder, .int .i64 amps] w fun e w' => (∃ v', e = .returned (.tuple #[v', .int .i64 (shAns gs fs es feeder amps).num, .int .i64 (shAns gs fs es feeder amps).den, .int .i64 (shErr gs fs es feeder amps)]) ∧ ShL w' v' (shAns gs fs es feeder amps).l) ∧ Below w.heap.size w w' := by
  obtain ⟨i0, hi0, hz0, hz1, hz2⟩ := info_parts infoIt
  have H := hide h
  obtain ⟨A0, b0, off0, cap0, rfl, hnc0, hA0, hc0⟩ := h.g
  obtain ⟨A1, b1, off1, cap1, rfl, hnc1, hA1, hc1⟩ := h.f
  obtain ⟨cv, hsl, hcy⟩ := h.e
  obtain ⟨A, b, off, cap, rfl, hnc, hA, hc⟩ := hsl
  have HC := hide hc
  have HA := hide hA
  have HC1 := hide hc1
  have HA1 := hide hA1
  have HCY := hide hcy
  have HZ_ := hide hz
  have hg30 := hz.g
  have hf30 := hz.f
  have he30 := hz.e
  clear h hc hA hc0 hA0 hc1 hA1 hcy hz
  obtain ⟨u, hu⟩ : ∃ u, chkErr gs fs es = u := ⟨_, rfl⟩
  have HU := hide hu
  clear hu
  go_enter Try.func45, Try.ntmps45
  go_wp2_with fail
  generalize hw0 : World.alloc _ _ = w0
  obtain ⟨hb0, hB0, hs0⟩ := alloc1 hw0
  clear hw0
  have HWI : Hid (WiAt w0 w.heap.size (.slice A0 gs.length cap0) (.slice A1 fs.length cap1) (.slice A es.length cap)) := hb0
  have HB0 := hide hB0
  clear hb0 hs0 hB0
  refine (Check_any gs fs es _ _ _ _ HZ_.out ((H.out.below HB0.out).more HB0.out.size)).mono ?_
  rw [HU.out]
  rintro e w1 ⟨rfl, hB1⟩
  have HB1 := hide hB1
  clear hB1
  have HBw : Hid (Below w.heap.size w w1) := Below.to HB0.out HB1.out (Nat.le_refl _)
  by_cases hu0 : u = 0
  · have HOK : Hid (WOk gs fs es) := chk_iff.1 (HU.out.trans hu0)
    subst hu0
    have hf20 := HOK.out.f20
    have he20 := HOK.out.e20
    have hl1 : w.heap.size < w1.heap.size := by have := box_lt HWI.out; have := HB1.out.size; omega
    have HWI1 : Hid (WiAt w1 w.heap.size (.slice A0 gs.length cap0) (.slice A1 fs.length cap1) (.slice A es.length cap)) := heap_below HWI.out HB1.out
    obtain ⟨k0, k1, k2, _⟩ := wi3 HWI1.out (Below.refl _ w1)
    obtain ⟨c1, hc1⟩ : ∃ x, fromB feeder 0 ((es.length : Int) - 1) = x := ⟨_, rfl⟩
    obtain ⟨c2, hc2⟩ : ∃ x, fromB amps 0 500 = x := ⟨_, rfl⟩
    have HE : Hid (shErr gs fs es feeder amps = if c1 && c2 then 0 else 1) := by show _ = _; unfold shErr; rw [HU.out, if_pos rfl, hc1, hc2]
    have HC1' := hide hc1
    have HC2' := hide hc2
    clear hc1 hc2
    cases c1
    · have HS : Hid (shAns gs fs es feeder amps = Sh.z) := by show _ = _; unfold shAns; rw [HE.out]; rfl
      go_wp2_with (go_at_call 49; refine (within_any _ _ _ _).mono ?_; (first | rw [HC1'.out] | rw [HC2'.out]); rintro e w' ⟨rfl, rfl⟩)
      ((try simp only [Exit.inBlock, Exit.then]); refine bodyPost_ret (results_tmp4 rfl _ _ _) rfl ?_)
      exact ⟨⟨.slice none 0 0, by rw [HS.out, HE.out]; rfl, by rw [HS.out]; exact Sl.nil _ _ _ _⟩, HBw.out⟩
    cases c2
    · have HS : Hid (shAns gs fs es feeder amps = Sh.z) := by show _ = _; unfold shAns; rw [HE.out]; rfl
      go_wp2_with (go_at_call 49; refine (within_any _ _ _ _).mono ?_; (first | rw [HC1'.out] | rw [HC2'.out]); rintro e w' ⟨rfl, rfl⟩)
      ((try simp only [Exit.inBlock, Exit.then]); refine bodyPost_ret (results_tmp4 rfl _ _ _) rfl ?_)
      exact ⟨⟨.slice none 0 0, by rw [HS.out, HE.out]; rfl, by rw [HS.out]; exact Sl.nil _ _ _ _⟩, HBw.out⟩
    obtain ⟨k, hk, hkl⟩ : ∃ k : Nat, feeder = k ∧ k < es.length := by
      have := fromB_iff.1 HC1'.out
      exact ⟨feeder.toNat, by omega, by omega⟩
    obtain ⟨ha0, ha1⟩ := fromB_iff.1 HC2'.out
    have HS : Hid (shAns gs fs es feeder amps = ⟨(shOf fs es amps k).l.reverse, (shOf fs es amps k).num, (shOf fs es amps k).den⟩) := by show _ = _; unfold shAns; rw [HE.out, hk]; rfl
    have hpar : Hid (∀ i, i < es.length → (es.getD i Fe.z).par ≤ (i : Int) - 1) := fun i hi => (HOK.out.at hi rfl).par1
    subst hk
    go_upto_region 6 with (go_at_call 49; refine (within_any _ _ _ _).mono ?_; (first | rw [HC1'.out] | rw [HC2'.out]); rintro e w' ⟨rfl, rfl⟩)
    clear k0 k1 k2
    go_wp2_with fail
    go_loopw [6, 7, 8, 11] (fun op nu de at_ wr => ∃ (x : Int) (s : Sh), -1 ≤ x ∧ x < es.length ∧ at_ = .int .i64 x ∧ nu = .int .i64 s.num ∧ de = .int .i64 s.den ∧ Hid ((pathL es x).foldl (stepS fs es amps) s = shOf fs es amps k) ∧ Hid (ShOk amps s) ∧ Hid ((s.l.length : Int) + x + 1 ≤ es.length) ∧ Hid (wr.ownsRow w1.heap.size 3 1 op s.l.length (natV s.l)) ∧ Hid (Below w1.heap.size w1 wr)) (fun _ _ _ at_ _ => (intOf at_ + 1).toNat)
    case atStart => exact ⟨k, Sh.z, by omega, by omega, rfl, rfl, rfl, rfl, .inl ⟨rfl, rfl⟩, by show _ ≤ _; simp [Sh.z]; omega, World.ownsRow_nil _ _ _ _, Below.refl _ _⟩
    case round =>
      obtain ⟨x, s, hx0, hx1, rfl, rfl, rfl, HF, HO, HL, HR, HK⟩ := hrel
      obtain ⟨Av, cpv, hv⟩ := owns_form HR.out
      subst hv
      have hKs : w1.heap.size ≤ wr.heap.size := HK.out.size
      have HBq : Hid (Below w.heap.size w wr) := Below.to HBw.out HK.out (Nat.le_refl _)
      have HWIr : Hid (WiAt wr w.heap.size (.slice A0 gs.length cap0) (.slice A1 fs.length cap1) (.slice A es.length cap)) := heap_below HWI1.out HK.out
      by_cases hlt : 0 ≤ x
      · obtain ⟨j, rfl⟩ : ∃ j : Nat, x = j := ⟨x.toNat, by omega⟩
        have hjl : j < es.length := by omega
        have hji : (j : Int) < (es.length : Int) := hx1
        obtain ⟨f, C, cp, HZ, hA1, hbw, h0, h1, h2, h3, h4, h5, h6, hy⟩ := feAtB HBq.out HA.out HC.out HCY.out hjl
        subst hA1
        have hfo := HOK.out.at hjl HZ.out
        have hpar0 := hfo.par0
        have hpar1 := hfo.par1
        obtain ⟨fi, hfi⟩ : ∃ fi : Nat, f.fuse = fi := ⟨f.fuse.toNat, by have := hfo.fu0; omega⟩
        have hfl : fi < fs.length := by have := hfo.fu1; omega
        clear hfo h1 h3 h4 h5 h6 hy
        rw [hfi] at h2
        have hif0 : (0 : Int) ≤ (fi : Int) := by omega
        have hif1 : (fi : Int) < (fs.length : Int) := by omega
        obtain ⟨u, HZu, hA11, hbw1, u0, u1⟩ := fuAtB HBq.out HA1.out HC1.out hfl
        subst hA11
        have hUo : Hid (u.Ok) := Fu.ok_iff.1 (by rw [← HZu.out]; exact fusB_get HOK.out.fus hfl)
        have hfu : fuOf fs es j = u := by unfold fuOf; rw [HZ.out, hfi, Int.toNat_natCast, HZu.out]
        obtain ⟨q1, q2, q3, q4, _, _⟩ := blow_range hUo.out ha0 ha1
        obtain ⟨p1, p2, p3, p4⟩ := HO.out.range ha0 ha1
        obtain ⟨bn, hbn⟩ : ∃ x, blowNum u amps = x := ⟨_, rfl⟩
        obtain ⟨bd, hbd⟩ : ∃ x, blowDen u amps = x := ⟨_, rfl⟩
        have HBN : Hid (blowNum (fuOf fs es j) amps = bn) := by show _ = _; rw [hfu]; exact hbn
        have HBD : Hid (blowDen (fuOf fs es j) amps = bd) := by show _ = _; rw [hfu]; exact hbd
        have HBN' := hide hbn
        have HBD' := hide hbd
        rw [hbn] at q1 q2
        rw [hbd] at q3 q4
        have HFok : Hid ((fuOf fs es j).Ok) := by show Fu.Ok _; rw [hfu]; exact hUo.out
        have HST : Hid ((pathL es f.par).foldl (stepS fs es amps) (stepS fs es amps s j) = shOf fs es amps k) := by
          show _ = _
          rw [← HF.out, pathL_step hpar.out hjl, HZ.out, List.foldl_cons]
        have HOk' : Hid (ShOk amps (stepS fs es amps s j)) := step_ok HO.out HFok.out (by rw [HBD.out]; exact q3)
        clear hbn hbd hfu
        obtain ⟨m1, m2⟩ := mul_range q1 q2 p3 p4
        obtain ⟨n1, n2⟩ := mul_range p1 p2 q3 q4
        have hwr : w.heap.size < wr.heap.size := by omega
        have hlb0 : b < wr.heap.size := by omega
        have hlb1 : b1 < wr.heap.size := by omega
        obtain ⟨k0, k1, k2, _⟩ := wi3 HWIr.out (Below.refl _ wr)
        go_upto_region 9 with (fail)
        refine wp_region_held_drew (S := (fun w' => Below wr.heap.size wr w')) (by kernel_rfl) ?_ (fun hHeld => ?_)
        · try dsimp only
          exact (by repeat (first | exact Below.refl _ _ | assumption | refine Below.drew ?_ | refine Below.drewN ?_ _ | refine Below.allocT ?_ (Nat.le_refl _) _ | refine Below.setCell ?_ (by simp <;> omega) _ | refine Below.to ?_ (by assumption) (Nat.le_refl _)))
        refine wpAnyH_take (i := 0) (v := ?v1_0) rfl (by kernel_rfl) (by kernel_rfl) (by kernel_rfl) (fun _ _ _ h => h) (Or.inl ⟨by rfl, ?y1_0⟩) (by assumption) ?r1_0
        case' y1_0 => (intro w hSw; (try dsimp only at hSw); (try have hlS := HLK.out _ hSw); obtain ⟨hcS, hfS⟩ := bcell hSw; clear hSw; go_simp; try with_reducible rfl)
        try simp only [Act.put, List.getElem_toArray, List.getElem_cons_succ, List.getElem_cons_zero, List.setIfInBounds_toArray, List.set_cons_zero, List.set_cons_succ]
        refine wpAnyH_take (i := 1) (v := ?v1_1) rfl (by kernel_rfl) (by kernel_rfl) (by kernel_rfl) (fun _ _ _ h => h) (Or.inl ⟨by rfl, ?y1_1⟩) (by assumption) ?r1_1
        case' y1_1 => (intro w hSw; (try dsimp only at hSw); (try have hlS := HLK.out _ hSw); obtain ⟨hcS, hfS⟩ := bcell hSw; clear hSw; go_simp; try with_reducible rfl)
        try simp only [Act.put, List.getElem_toArray, List.getElem_cons_succ, List.getElem_cons_zero, List.setIfInBounds_toArray, List.set_cons_zero, List.set_cons_succ]
        refine wpAnyH_take (i := 2) (v := ?v1_2) rfl (by kernel_rfl) (by kernel_rfl) (by kernel_rfl) (fun _ _ _ h => h) (Or.inl ⟨by rfl, ?y1_2⟩) (by assumption) ?r1_2
        case' y1_2 => (intro w hSw; (try dsimp only at hSw); (try have hlS := HLK.out _ hSw); obtain ⟨hcS, hfS⟩ := bcell hSw; clear hSw; go_simp; try with_reducible rfl)
        try simp only [Act.put, List.getElem_toArray, List.getElem_cons_succ, List.getElem_cons_zero, List.setIfInBounds_toArray, List.set_cons_zero, List.set_cons_succ]
        refine wpAnyH_take (i := 3) (v := ?v1_3) rfl (by kernel_rfl) (by kernel_rfl) (by kernel_rfl) (fun _ _ _ h => h) (Or.inl ⟨by rfl, ?y1_3⟩) (by assumption) ?r1_3
        case' y1_3 => (intro w hSw; (try dsimp only at hSw); (try have hlS := HLK.out _ hSw); obtain ⟨hcS, hfS⟩ := bcell hSw; clear hSw; go_simp; try with_reducible rfl)
        try simp only [Act.put, List.getElem_toArray, List.getElem_cons_succ, List.getElem_cons_zero, List.setIfInBounds_toArray, List.set_cons_zero, List.set_cons_succ]
        refine wpAnyH_take (i := 4) (v := ?v1_4) rfl (by kernel_rfl) (by kernel_rfl) (by kernel_rfl) (fun _ _ _ h => h) (Or.inl ⟨by rfl, ?y1_4⟩) (by assumption) ?r1_4
        case' y1_4 => (intro w hSw; (try dsimp only at hSw); (try have hlS := HLK.out _ hSw); obtain ⟨hcS, hfS⟩ := bcell hSw; clear hSw; go_simp; try with_reducible rfl)
        try simp only [Act.put, List.getElem_toArray, List.getElem_cons_succ, List.getElem_cons_zero, List.setIfInBounds_toArray, List.set_cons_zero, List.set_cons_succ]
        refine wpAnyH_take (i := 5) (v := ?v1_5) rfl (by kernel_rfl) (by kernel_rfl) (by kernel_rfl) (fun _ _ _ h => h) (Or.inl ⟨by rfl, ?y1_5⟩) (by assumption) ?r1_5
        case' y1_5 => (intro w hSw; (try dsimp only at hSw); (try have hlS := HLK.out _ hSw); obtain ⟨hcS, hfS⟩ := bcell hSw; clear hSw; go_simp; try with_reducible rfl)
        try simp only [Act.put, List.getElem_toArray, List.getElem_cons_succ, List.getElem_cons_zero, List.setIfInBounds_toArray, List.set_cons_zero, List.set_cons_succ]
        refine wpAnyH_take (i := 6) (v := ?v1_6) rfl (by kernel_rfl) (by kernel_rfl) (by kernel_rfl) (fun _ _ _ h => h) (Or.inl ⟨by rfl, ?y1_6⟩) (by assumption) ?r1_6
        case' y1_6 => (intro w hSw; (try dsimp only at hSw); (try have hlS := HLK.out _ hSw); obtain ⟨hcS, hfS⟩ := bcell hSw; clear hSw; go_simp; try with_reducible rfl)
        try simp only [Act.put, List.getElem_toArray, List.getElem_cons_succ, List.getElem_cons_zero, List.setIfInBounds_toArray, List.set_cons_zero, List.set_cons_succ]
        refine wpAnyH_take (i := 7) (v := ?v1_7) rfl (by kernel_rfl) (by kernel_rfl) (by kernel_rfl) (fun _ _ _ h => h) (Or.inl ⟨by rfl, ?y1_7⟩) (by assumption) ?r1_7
        case' y1_7 => (intro w hSw; (try dsimp only at hSw); (try have hlS := HLK.out _ hSw); obtain ⟨hcS, hfS⟩ := bcell hSw; clear hSw; go_simp; try with_reducible rfl)
        try simp only [Act.put, List.getElem_toArray, List.getElem_cons_succ, List.getElem_cons_zero, List.setIfInBounds_toArray, List.set_cons_zero, List.set_cons_succ]
        refine wpAnyH_take (i := 8) (v := ?v1_8) rfl (by kernel_rfl) (by kernel_rfl) (by kernel_rfl) (fun _ _ _ h => h) (Or.inl ⟨by rfl, ?y1_8⟩) (by assumption) ?r1_8
        case' y1_8 => (intro w hSw; (try dsimp only at hSw); (try have hlS := HLK.out _ hSw); obtain ⟨hcS, hfS⟩ := bcell hSw; clear hSw; go_simp; try with_reducible rfl)
        try simp only [Act.put, List.getElem_toArray, List.getElem_cons_succ, List.getElem_cons_zero, List.setIfInBounds_toArray, List.set_cons_zero, List.set_cons_succ]
        refine wpAnyH_take (i := 9) (v := ?v1_9) rfl (by kernel_rfl) (by kernel_rfl) (by kernel_rfl) (fun _ _ _ h => h) (Or.inl ⟨by rfl, ?y1_9⟩) (by assumption) ?r1_9
        case' y1_9 => (intro w hSw; (try dsimp only at hSw); (try have hlS := HLK.out _ hSw); obtain ⟨hcS, hfS⟩ := bcell hSw; clear hSw; go_simp; try with_reducible rfl)
        try simp only [Act.put, List.getElem_toArray, List.getElem_cons_succ, List.getElem_cons_zero, List.setIfInBounds_toArray, List.set_cons_zero, List.set_cons_succ]
        refine wpAnyH_take (i := 10) (v := ?v1_10) rfl (by kernel_rfl) (by kernel_rfl) (by kernel_rfl) (fun _ _ _ h => h) (Or.inl ⟨by rfl, ?y1_10⟩) (by assumption) ?r1_10
        case' y1_10 => (intro w hSw; (try dsimp only at hSw); (try have hlS := HLK.out _ hSw); obtain ⟨hcS, hfS⟩ := bcell hSw; clear hSw; go_simp; try with_reducible rfl)
        try simp only [Act.put, List.getElem_toArray, List.getElem_cons_succ, List.getElem_cons_zero, List.setIfInBounds_toArray, List.set_cons_zero, List.set_cons_succ]
        refine wpAnyH_ready (rs := [11]) (by kernel_rfl) (by simp) ?_
        refine AllReadyH.cons rfl (fun K hK => ?_) AllReadyH.nil
        go_simp
        ((go_at_call 55; refine (blow_any u amps _ hUo.out ha0 ha1).mono ?_; rw [HBN'.out, HBD'.out]; rintro e w5 ⟨rfl, hB5⟩))
        (try dsimp only)
        refine hK.out _ _ ?_ (fun hNext => ?_)
        · try dsimp only
          exact (by repeat (first | exact Below.refl _ _ | assumption | refine Below.drew ?_ | refine Below.drewN ?_ _ | refine Below.allocT ?_ (Nat.le_refl _) _ | refine Below.setCell ?_ (by simp <;> omega) _ | refine Below.to ?_ (by assumption) (Nat.le_refl _)))
        clear hK K hHeld
        have hHeld := hNext
        clear hNext
        (try dsimp only at hHeld)
        try simp only [Act.put, List.getElem_toArray, List.getElem_cons_succ, List.getElem_cons_zero, List.setIfInBounds_toArray, List.set_cons_zero, List.set_cons_succ]
        refine wpAnyH_take (i := 12) (v := ?v1_12) rfl (by kernel_rfl) (by kernel_rfl) (by kernel_rfl) (fun _ _ _ h => h) (Or.inl ⟨by rfl, ?y1_12⟩) (by assumption) ?r1_12
        case' y1_12 => (intro w hSw; (try dsimp only at hSw); (try have hlS := HLK.out _ hSw); obtain ⟨hcS, hfS⟩ := bcell hSw; clear hSw; go_simp; try with_reducible rfl)
        try simp only [Act.put, List.getElem_toArray, List.getElem_cons_succ, List.getElem_cons_zero, List.setIfInBounds_toArray, List.set_cons_zero, List.set_cons_succ]
        refine wpAnyH_take (i := 13) (v := ?v1_13) rfl (by kernel_rfl) (by kernel_rfl) (by kernel_rfl) (fun _ _ _ h => h) (Or.inl ⟨by rfl, ?y1_13⟩) (by assumption) ?r1_13
        case' y1_13 => (intro w hSw; (try dsimp only at hSw); (try have hlS := HLK.out _ hSw); obtain ⟨hcS, hfS⟩ := bcell hSw; clear hSw; go_simp; try with_reducible rfl)
        try simp only [Act.put, List.getElem_toArray, List.getElem_cons_succ, List.getElem_cons_zero, List.setIfInBounds_toArray, List.set_cons_zero, List.set_cons_succ]
        refine wpAnyH_take (i := 14) (v := ?v1_14) rfl (by kernel_rfl) (by kernel_rfl) (by kernel_rfl) (fun _ _ _ h => h) (Or.inl ⟨by rfl, ?y1_14⟩) (by assumption) ?r1_14
        case' y1_14 => (intro w hSw; (try dsimp only at hSw); (try have hlS := HLK.out _ hSw); obtain ⟨hcS, hfS⟩ := bcell hSw; clear hSw; go_simp; try with_reducible rfl)
        try simp only [Act.put, List.getElem_toArray, List.getElem_cons_succ, List.getElem_cons_zero, List.setIfInBounds_toArray, List.set_cons_zero, List.set_cons_succ]
        refine wpAnyH_take (i := 15) (v := ?v1_15) rfl (by kernel_rfl) (by kernel_rfl) (by kernel_rfl) (fun _ _ _ h => h) (Or.inl ⟨by rfl, ?y1_15⟩) (by assumption) ?r1_15
        case' y1_15 => (intro w hSw; (try dsimp only at hSw); (try have hlS := HLK.out _ hSw); obtain ⟨hcS, hfS⟩ := bcell hSw; clear hSw; go_simp; try with_reducible rfl)
        try simp only [Act.put, List.getElem_toArray, List.getElem_cons_succ, List.getElem_cons_zero, List.setIfInBounds_toArray, List.set_cons_zero, List.set_cons_succ]
        refine wpAnyH_take (i := 16) (v := ?v1_16) rfl (by kernel_rfl) (by kernel_rfl) (by kernel_rfl) (fun _ _ _ h => h) (Or.inl ⟨by rfl, ?y1_16⟩) (by assumption) ?r1_16
        case' y1_16 => (intro w hSw; (try dsimp only at hSw); (try have hlS := HLK.out _ hSw); obtain ⟨hcS, hfS⟩ := bcell hSw; clear hSw; go_simp; try with_reducible rfl)
        try simp only [Act.put, List.getElem_toArray, List.getElem_cons_succ, List.getElem_cons_zero, List.setIfInBounds_toArray, List.set_cons_zero, List.set_cons_succ]
        refine wpAnyH_done (by kernel_rfl) ?_ _
        clear h0 h2 u0 u1 k0 k1 k2
        have HB5 : Hid (Below wr.heap.size wr w5) := hHeld
        clear hHeld hB5
        go_upto_region 10 with (fail)
        go_cut [55] from 56 to 70 (fun t wc => t = .bool (decide (bd = 0 ∨ (0 < s.den ∧ s.num * bd < bn * s.den))) ∧ Hid (w5 = wc))
        case first =>
          by_cases z1 : bd = 0
          · have y1 : (bd == 0) = true := by simp [z1]
            have Z1 := hide z1
            clear z1
            go_wp2_with fail
            go_meet
            case rel => exact ⟨by simp [Z1.out], rfl⟩
          · have y1 : (bd == 0) = false := by simp [z1]
            have Z1 := hide z1
            clear z1
            by_cases z2 : 0 < s.den
            · have y2 : decide (0 < s.den) = true := by simp [z2]
              have Z2 := hide z2
              clear z2
              go_wp2_with fail
              go_meet
              case rel => exact ⟨by simp [Z1.out, Z2.out], rfl⟩
            · have y2 : decide (0 < s.den) = false := by simp; omega
              have Z2 := hide z2
              clear z2
              go_wp2_with fail
              go_meet
              case rel => exact ⟨by simp [Z1.out]; intro q; have := Z2.out; omega, rfl⟩
        case rest =>
          obtain ⟨rfl, hcc⟩ := hcut
          have hwd := hcc.out
          subst hwd
          have HKd : Hid (Below w1.heap.size w1 w5) := Below.to HK.out HB5.out (Nat.le_refl _)
          have HRd : Hid (w5.ownsRow w1.heap.size 3 1 (.slice Av s.l.length cpv) s.l.length (natV s.l)) := owns_below HR.out HB5.out
          by_cases hq1 : bd = 0 ∨ (0 < s.den ∧ s.num * bd < bn * s.den)
          · have HS1 : Hid (stepS fs es amps s j = s) := step_c1 HBN.out HBD.out hq1
            have e1 : decide (bd = 0 ∨ (0 < s.den ∧ s.num * bd < bn * s.den)) = true := decide_eq_true hq1
            rw [e1]
            clear e1 hq1
            obtain ⟨f', C', cp', HZ', _, _, h0, _⟩ := feAtB (Below.to HBw.out HKd.out (Nat.le_refl _)) (show (some ⟨b, off, none⟩ : Option Addr) = some ⟨b, off, none⟩ ∧ b < w.heap.size ∨ es.length = 0 from .inl ⟨rfl, hbw⟩) HC.out HCY.out hjl
            obtain rfl : f = f' := by have h1 := HZ.out; rw [HZ'.out] at h1; exact h1.symm
            obtain ⟨k0, k1, k2, _⟩ := wi3 HWI1.out HKd.out
            go_wp2_with fail
            go_roundw
            case rel => exact ⟨f.par, s, by omega, by omega, rfl, rfl, rfl, by have h1 := HST.out; rw [HS1.out] at h1; exact h1, by have h1 := HOk'.out; rw [HS1.out] at h1; exact h1, by show _ ≤ _; have h1 := HL.out; simp; omega, HRd.out, HKd.out⟩
            case measure => simp [intOf]; omega
          · have HQ1 := hide hq1
            have e1 : decide (bd = 0 ∨ (0 < s.den ∧ s.num * bd < bn * s.den)) = false := decide_eq_false hq1
            rw [e1]
            clear e1 hq1
            go_upto_region 11 with (fail)
            go_cut [71] from 72 to 82 (fun t wc => t = .bool (decide (s.den = 0 ∨ bn * s.den < s.num * bd)) ∧ Hid (w5 = wc))
            case first =>
              by_cases z1 : s.den = 0
              · have y1 : (s.den == 0) = true := by simp [z1]
                have Z1 := hide z1
                clear z1
                go_wp2_with fail
                go_meet
                case rel => exact ⟨by simp [Z1.out], rfl⟩
              · have y1 : (s.den == 0) = false := by simp [z1]
                have Z1 := hide z1
                clear z1
                go_wp2_with fail
                go_meet
                case rel => exact ⟨by simp [Z1.out], rfl⟩
            case rest =>
              obtain ⟨rfl, hcc2⟩ := hcut
              have hwd2 := hcc2.out
              subst hwd2
              have hK5 : w1.heap.size ≤ w5.heap.size := HKd.out.size
              have hsl : s.l.length ≤ 20 := by have := HL.out; omega
              by_cases hq2 : s.den = 0 ∨ bn * s.den < s.num * bd
              · have HS1 : Hid (stepS fs es amps s j = ⟨[] ++ [j], bn, bd⟩) := step_c2 HBN.out HBD.out HQ1.out hq2
                have e1 : decide (s.den = 0 ∨ bn * s.den < s.num * bd) = true := decide_eq_true hq2
                rw [e1]
                clear e1 hq2
                have HN0 : Hid (w5.ownsRow w1.heap.size 3 1 (.slice none 0 0) 0 []) := World.ownsRow_nil _ _ _ _
                go_wp2_with (at_builtin; go_must (refine wpList_append_own_at _ rfl (.tmp 85) (.tmp 87) _ rfl w1.heap.size 3 i0 _ 1 8 Try.underlying49 hi0 hz0 hz1 hz2 rfl (by omega) _ _ _ rfl (HN0.out.alloc _) ⟨w5.heap.size, 0, none⟩ 1 1 [.int .i64 j] rfl rfl (World.news_of_block (heap_alloc_new w5 _)) (by simp [Value.oneCell']) (by unfold maxLen; omega) (by omega) (by simp; omega) ?_); intro v1 w1' hown1 hg1 _ hat1; have HKe : Hid (Below w1.heap.size w1 w1') := (Below.allocT HKd.out (Nat.le_refl _) _).grown hg1 (by have := HKd.out.size; simp; omega) (fun q e => (HN0.out.lt q e).1); have HRe : Hid (w1'.ownsRow w1.heap.size 3 1 v1 (([] : List Nat) ++ [j]).length (natV (([] : List Nat) ++ [j]))) := (by show World.ownsRow _ _ _ _ _ _ _; have h1 := hown1; simp only [natV, List.map_append, List.map_cons, List.map_nil, List.length_append, List.length_cons, List.length_nil] at h1 ⊢; exact h1); clear hown1 hg1 hat1; obtain ⟨f', C', cp', HZ', _, _, h0, _⟩ := feAtB (Below.to HBw.out HKe.out (Nat.le_refl _)) (show (some ⟨b, off, none⟩ : Option Addr) = some ⟨b, off, none⟩ ∧ b < w.heap.size ∨ es.length = 0 from .inl ⟨rfl, hbw⟩) HC.out HCY.out hjl; obtain rfl : f = f' := (by have h1 := HZ.out; rw [HZ'.out] at h1; exact h1.symm); obtain ⟨k0, k1, k2, _⟩ := wi3 HWI1.out HKe.out)
                go_roundw
                case rel => exact ⟨f.par, ⟨[] ++ [j], bn, bd⟩, by omega, by omega, rfl, rfl, rfl, by have h1 := HST.out; rw [HS1.out] at h1; exact h1, by have h1 := HOk'.out; rw [HS1.out] at h1; exact h1, by show _ ≤ _; have h1 := HL.out; simp only [List.length_append, List.length_cons, List.length_nil]; omega, HRe.out, HKe.out⟩
                case measure => simp [intOf]; omega
              · have HS1 : Hid (stepS fs es amps s j = ⟨s.l ++ [j], s.num, s.den⟩) := step_c3 HBN.out HBD.out HQ1.out hq2
                have e1 : decide (s.den = 0 ∨ bn * s.den < s.num * bd) = false := decide_eq_false hq2
                rw [e1]
                clear e1 hq2
                go_wp2_with (at_builtin; go_must (refine wpList_append_own_at _ rfl (.tmp 85) (.tmp 87) _ rfl w1.heap.size 3 i0 _ 1 8 Try.underlying49 hi0 hz0 hz1 hz2 rfl (by omega) _ _ _ rfl (HRd.out.alloc _) ⟨w5.heap.size, 0, none⟩ 1 1 [.int .i64 j] rfl rfl (World.news_of_block (heap_alloc_new w5 _)) (by simp [Value.oneCell']) (by unfold maxLen; omega) (by omega) (by simp; omega) ?_); intro v1 w1' hown1 hg1 _ hat1; have HKe : Hid (Below w1.heap.size w1 w1') := (Below.allocT HKd.out (Nat.le_refl _) _).grown hg1 (by have := HKd.out.size; simp; omega) (fun q e => (HRd.out.lt q e).1); have HRe : Hid (w1'.ownsRow w1.heap.size 3 1 v1 (s.l ++ [j]).length (natV (s.l ++ [j]))) := (by show World.ownsRow _ _ _ _ _ _ _; have h1 := hown1; simp only [natV, List.map_append, List.map_cons, List.map_nil, List.length_append, List.length_cons, List.length_nil] at h1 ⊢; exact h1); clear hown1 hg1 hat1; obtain ⟨f', C', cp', HZ', _, _, h0, _⟩ := feAtB (Below.to HBw.out HKe.out (Nat.le_refl _)) (show (some ⟨b, off, none⟩ : Option Addr) = some ⟨b, off, none⟩ ∧ b < w.heap.size ∨ es.length = 0 from .inl ⟨rfl, hbw⟩) HC.out HCY.out hjl; obtain rfl : f = f' := (by have h1 := HZ.out; rw [HZ'.out] at h1; exact h1.symm); obtain ⟨k0, k1, k2, _⟩ := wi3 HWI1.out HKe.out)
                go_roundw
                case rel => exact ⟨f.par, ⟨s.l ++ [j], s.num, s.den⟩, by omega, by omega, rfl, rfl, rfl, by have h1 := HST.out; rw [HS1.out] at h1; exact h1, by have h1 := HOk'.out; rw [HS1.out] at h1; exact h1, by show _ ≤ _; have h1 := HL.out; simp only [List.length_append, List.length_cons, List.length_nil]; omega, HRe.out, HKe.out⟩
                case measure => simp [intOf]; omega
      · have hfin : Hid (s = shOf fs es amps k) := by
          show _ = _
          rw [← HF.out, pathL_neg (by omega)]
          rfl
        have hdec := sh_dec (fs := fs) (amps := amps) hpar.out hkl
        rw [← hfin.out] at hdec
        have HSD := hide (sort_dec hdec)
        have hsl : s.l.length ≤ 1000 := by have := HL.out; omega
        clear hdec
        go_wp2_with fail
        refine (sort_own (s.l.map fun (n : Nat) => (n : Int)) w1.heap.size _ _ (by simpa using hsl) (by rw [List.length_map, ← natV_ints]; exact HR.out)).mono ?_
        rintro e w7 ⟨rfl, hS7, hB7⟩
        have HK7 : Hid (Below w1.heap.size wr w7) := hB7 hKs
        have HS7 : Hid (w7.ownsRow w1.heap.size 3 1 (.slice Av s.l.length cpv) s.l.reverse.length (natV s.l.reverse)) := by
          show World.ownsRow _ _ _ _ _ _ _
          rw [HSD.out, ← natV_ints, List.length_map] at hS7
          rw [List.length_reverse]
          exact hS7
        clear hS7 hB7
        go_wp2_with fail
        ((try simp only [Exit.inBlock, Exit.then]); refine bodyPost_ret (results_tmp4 rfl _ _ _) rfl ?_)
        exact ⟨⟨.slice Av s.l.length cpv, by rw [HS.out, HE.out, ← hfin.out]; rfl, by rw [HS.out, ← hfin.out]; exact ShL.of HS7.out⟩, HBq.out.trans (HK7.out.mono (Nat.le_of_lt hl1))⟩
  · have hE : shErr gs fs es feeder amps = u := by unfold shErr; rw [HU.out, if_neg hu0]
    have HE := hide hE
    have HS : Hid (shAns gs fs es feeder amps = Sh.z) := by show _ = _; unfold shAns; rw [hE, if_neg hu0]
    have hu1 : (u != 0) = true := by simp [hu0]
    clear hu0 hE
    go_wp2_with fail
    ((try simp only [Exit.inBlock, Exit.then]); refine bodyPost_ret (results_tmp4 rfl _ _ _) rfl ?_)
    exact ⟨⟨.slice none 0 0, by rw [HS.out, HE.out]; first | rfl | simp, by rw [HS.out]; exact Sl.nil _ _ _ _⟩, HBw.out⟩
end Go.Proofs.Ytejjjijaojkohaa
/- A weakness put into the list, by a function that shares two variables: a walk; what a round of Weak holds. -/
namespace Go.Proofs.Ytejjjijaojkohaa
open Go.RowKit
set_option linter.unusedVariables false
set_option linter.unusedSimpArgs false

theorem infoWk : (Try.prog.info? 71).map (fun i => (i.zero, i.size, i.bytes)) = some (some (.agg #[.int .i64 0, .int .i64 0]), 2, 16) := by kernel_rfl
def weakV (l : List (Int × Int)) : List Value := l.flatMap fun p => [.int .i64 p.1, .int .i64 p.2]
theorem weakV_snoc (l : List (Int × Int)) (a b : Int) : weakV (l ++ [(a, b)]) = weakV l ++ [.int .i64 a, .int .i64 b] := by simp [weakV]
theorem weakV_get : ∀ (l : List (Int × Int)) (i : Nat), i < l.length → (weakV l)[i * 2]? = some (.int .i64 (l.getD i (0, 0)).1) ∧ (weakV l)[i * 2 + 1]? = some (.int .i64 (l.getD i (0, 0)).2)
  | [], i, h => by simp at h
  | p :: r, 0, _ => by simp [weakV]
  | p :: r, i + 1, h => by
    have := weakV_get r i (by simpa using h)
    rw [show (i + 1) * 2 = i * 2 + 1 + 1 by omega]
    simpa [weakV] using this
/-- The list of weaknesses in its variable, block ob. -/
structure WkOut (ob : Nat) (v : Value) (l : List (Int × Int)) (W : World) : Prop where
  box : W.heap[ob]? = some (.cells #[v] 65 (0, 0))
  own : W.ownsRow (ob + 1) 71 2 v l.length (weakV l)
/-- Nothing has changed but the list of weaknesses and its variable. -/
structure KeepW (ob : Nat) (W w' : World) : Prop where
  os : w'.os = W.os
  tape : w'.tape = W.tape
  output : w'.output = W.output
  size : W.heap.size ≤ w'.heap.size
  low : ∀ k, k < ob → w'.heap[k]? = W.heap[k]?
  high : ∀ k cs t fr, W.heap[k]? = some (.cells cs t fr) → k ≠ ob → t ≠ 71 → w'.heap[k]? = some (.cells cs t fr)
theorem KeepW.refl (ob : Nat) (W : World) : KeepW ob W W := ⟨rfl, rfl, rfl, Nat.le_refl _, fun _ _ => rfl, fun _ _ _ _ h _ _ => h⟩
theorem KeepW.trans {ob : Nat} {a b c : World} (h : KeepW ob a b) (k : KeepW ob b c) : KeepW ob a c :=
  ⟨k.os.trans h.os, k.tape.trans h.tape, k.output.trans h.output, Nat.le_trans h.size k.size, fun i hi => (k.low i hi).trans (h.low i hi), fun i cs t fr hh hne ht => k.high i cs t fr (h.high i cs t fr hh hne ht) hne ht⟩
theorem KeepW.of {ob : Nat} {a b : World} (h : Below a.heap.size a b) (ho : ob < a.heap.size) : KeepW ob a b :=
  ⟨h.os, h.tape, h.output, h.size, fun i hi => h.block i (by omega), fun i cs t fr hh _ _ => (h.block i (box_lt hh)).trans hh⟩
theorem KeepW.drew {ob : Nat} {a b : World} (h : KeepW ob a b) : KeepW ob a b.drew := ⟨h.os, h.tape, h.output, h.size, h.low, h.high⟩
theorem KeepW.below {ob : Nat} {a b : World} (h : KeepW ob a b) (hs : ob ≤ a.heap.size) : Below ob a b := ⟨h.os, h.tape, h.output, h.size, h.low⟩
theorem WkOut.below {ob : Nat} {v : Value} {l : List (Int × Int)} {W w' : World} (h : WkOut ob v l W) (hb : Below W.heap.size W w') : WkOut ob v l w' :=
  ⟨heap_below h.box hb, owns_below h.own hb⟩
def putL (b : Bool) (i kind : Int) : List (Int × Int) := if b then [(i, kind)] else []

set_option maxRecDepth 100000 in
theorem put_any (kind i : Int) (b : Bool) (ob ib : Nat) (v : Value) (l : List (Int × Int)) (W : World) (ho : WkOut ob v l W) (hi : W.heap[ib]? = some (.cells #[.int .i64 i] 3 (0, 0))) (hn : l.length ≤ 200) :
    Calls Try.prog 81 #[.int .i64 kind, .bool b, .pointer (some ⟨ob, 0, none⟩), .pointer (some ⟨ib, 0, none⟩)] W
      fun e w' => e = .returned (.tuple #[]) ∧ (∃ v', WkOut ob v' (l ++ putL b i kind) w') ∧ KeepW ob W w' := by
  obtain ⟨i0, hi0, hz0, hz1, hz2⟩ := info_parts infoWk
  obtain ⟨A, cap, rfl⟩ := owns_form ho.own
  have hlo := box_lt ho.box
  have hli := box_lt hi
  have c0 : W.cell? ⟨ob, 0, none⟩ = some (.slice A l.length cap) := cellOf ho.box 0
  have c1 : W.cell? ⟨ib, 0, none⟩ = some (.int .i64 i) := cellOf hi 0
  have HO := hide ho
  clear ho hi
  cases b with
  | false =>
    go_enter Try.func81, Try.ntmps81
    go_wp2
    go_end0
    exact ⟨rfl, ⟨_, by simpa [putL] using HO.out⟩, KeepW.refl _ _⟩
  | true =>
    go_enter Try.func81, Try.ntmps81
    go_wp2_with (at_builtin; refine wpList_append_own_at _ rfl (.tmp 7) (.tmp 11) _ rfl (ob + 1) 71 i0 _ 2 16 Try.underlying65 hi0 hz0 hz1 hz2 rfl (by omega) _ _ _ rfl (HO.out.own.alloc _) ⟨W.heap.size, 0, none⟩ 1 1 [.int .i64 i, .int .i64 kind] rfl rfl (World.news_of_block (heap_alloc_new W _)) (by simp [Value.oneCell']) (by unfold maxLen; omega) (by omega) (by simp; omega) ?_; intro v1 w1 hown1 hg1 _ hat1; have hne : ¬ (Value.slice A l.length cap).ownBlock = some ob := (fun e => by have := HO.out.own.lt ob e; omega); have hbx : w1.heap[ob]? = some (.cells #[.slice A l.length cap] 65 (0, 0)) := (hg1.block ob (by simp; omega) (fun e => hne e.symm)).trans ((Below.heap_alloc _ _ _ hlo).trans HO.out.box); obtain ⟨A1, cap1, rfl⟩ := owns_form hown1; have d0 := cellOf hbx 0; have f0 := unfrozenOf hbx 0; have HBX := hide hbx; have HOW := hide hown1; have HG := hide hg1; clear hbx hown1 hg1 hat1 hne)
    go_end0
    have hset := setCellOf (i := 0) HBX.out (.slice A1 (l.length + 1) cap1)
    have hl1 : (l ++ putL true i kind).length = l.length + 1 := by simp [putL]
    have hwv : weakV (l ++ putL true i kind) = weakV l ++ [.int .i64 i, .int .i64 kind] := weakV_snoc l i kind
    have hs : (W.alloc (.cells #[.int .i64 i, .int .i64 kind] 71)).heap.size = W.heap.size + 1 := by simp
    refine ⟨rfl, ⟨_, hset, ?_⟩, ?_⟩
    · rw [hl1, hwv]
      obtain ⟨h1, ⟨h2, h3⟩ | ⟨g, cp, cur, h3, h4, h5, h6⟩⟩ := HOW.out
      · exact absurd h3 (by omega)
      · exact ⟨h1, .inr ⟨g, cp, cur, h3, h4, (Below.heap_setCell _ _ _ _ (show g ≠ ob by omega)).trans h5, h6⟩⟩
    · refine ⟨HG.out.os, HG.out.tape, HG.out.output, ?_, fun k hk => ?_, fun k cs t fr hk hne ht => ?_⟩
      · have := HG.out.size
        rw [hs] at this
        simpa [World.setCell] using Nat.le_of_succ_le this
      · rw [Below.heap_setCell _ _ _ _ (show k ≠ ob by omega), HG.out.block k (by rw [hs]; omega) (fun e => by have := HO.out.own.lt k e.symm; omega), Below.heap_alloc _ _ _ (by omega)]
      · have hkl := box_lt hk
        rw [Below.heap_setCell _ _ _ _ hne, HG.out.block k (by rw [hs]; omega) (fun e => ?_), Below.heap_alloc _ _ _ hkl]
        · exact hk
        · replace e : some k = (Value.slice A l.length cap).ownBlock := e
          obtain ⟨_, ⟨h2, _⟩ | ⟨g, cp, cur, h3, _, h5, _⟩⟩ := HO.out.own
          · rw [h2] at e; simp [Value.ownBlock] at e
          · rw [h3] at e
            simp only [Value.ownBlock, Option.some.injEq] at e
            subst e
            rw [h5] at hk
            injection hk with hk
            injection hk with _ hk
            exact ht hk.symm
end Go.Proofs.Ytejjjijaojkohaa

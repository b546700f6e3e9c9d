/- Part 6 of this claim's texts: walks and plain laws. -/
import Derived.Test.YtmabfnddedffoaaRows
import Derived.Test.YtmabfnddedffoaaGLW2
import Derived.Test.YtmabfnddedffoaaGLW5
import Derived.Laws.MakeOwn
import Derived.Test.YtmabfnddedffoaaGLW1
import Derived.OwnWalk
import Derived.Deep.DeepMust
import Derived.Deep.RegionHeld3
import Derived.Deep.DrawnRows
import Derived.BigQuiet
import Derived.WalkSpells
import Derived.Lib.SliceRun
/- The greatest sum: walk of best. -/
namespace Go.Proofs.Ytmabfnddedffoaa
open Go.RowKit
open Go.Maps (Keyed)
set_option linter.unusedVariables false
set_option linter.unusedSimpArgs false
def tminK (ks : List Kn) (N : Nat) (l : List Nat) : Nat := l.foldl (fun t n => min t (topK ks n)) N
theorem tminK_snoc (ks : List Kn) (N : Nat) (l : List Nat) (n : Nat) : tminK ks N (l ++ [n]) = min (tminK ks N l) (topK ks n) := by simp [tminK]
theorem tminK_le (ks : List Kn) : ∀ (l : List Nat) (N : Nat), tminK ks N l ≤ N ∧ ∀ n ∈ l, tminK ks N l ≤ topK ks n
  | [], N => ⟨Nat.le_refl _, fun n hn => by cases hn⟩
  | a :: l, N => by
    obtain ⟨h1, h2⟩ := tminK_le ks l (min N (topK ks a))
    have e : tminK ks N (a :: l) = tminK ks (min N (topK ks a)) l := rfl
    rw [e]
    refine ⟨by omega, fun n hn => ?_⟩
    rcases List.mem_cons.1 hn with rfl | hn
    · omega
    · exact h2 n hn
theorem wyes_snoc : ∀ (a : List Nat) (n : Nat) (ws : List Int), a.length < ws.length → wyes (a ++ [n]) ws = wyes a ws + if n = 1 then ws.getD a.length 0 else 0
  | [], n, w :: ws, _ => by cases ws <;> simp [wyes]
  | x :: a, n, w :: ws, h => by
    have := wyes_snoc a n ws (by simpa using h)
    simp only [List.cons_append, wyes, this, List.length_cons, List.getD_cons_succ]
    omega
  | [], n, [], h => by simp at h
  | x :: a, n, [], h => by simp at h
/-- The sum that best has when it has looked at some nodes. -/
def sumP (l : List Nat) (ws : List Int) : Int := wyes (l.drop 1) ws
theorem sumP_snoc {l : List Nat} {n : Nat} {ws : List Int} (hl : l.length ≤ ws.length) : sumP (l ++ [n]) ws = sumP l ws + if 0 < l.length ∧ n = 1 then ws.getD (l.length - 1) 0 else 0 := by
  unfold sumP
  match l with
  | [] => simp [wyes]
  | x :: l =>
    simp only [List.cons_append, List.drop_succ_cons, List.drop_zero, List.length_cons]
    rw [wyes_snoc l n ws (by simp at hl; omega)]
    by_cases h : n = 1 <;> simp [h]
theorem wyes_bd : ∀ (a : List Nat) (ws : List Int), (∀ x ∈ ws, -1000000 ≤ x ∧ x ≤ 1000000) → -1000000 * (a.length : Int) ≤ wyes a ws ∧ wyes a ws ≤ 1000000 * (a.length : Int)
  | [], ws, _ => by cases ws <;> simp [wyes]
  | n :: a, [], _ => by simp [wyes]; omega
  | n :: a, x :: ws, h => by
    have h1 := wyes_bd a ws fun y hy => h y (by simp [hy])
    have h2 := h x (by simp)
    simp only [wyes, List.length_cons]
    split <;> omega
theorem wsum_bd (ks : List Kn) (v : Nat → Bool) : ∀ (a : List Nat) (ws : List Int), (∀ x ∈ ws, -1000000 ≤ x ∧ x ≤ 1000000) → -1000000 * (a.length : Int) ≤ wsum ks v a ws ∧ wsum ks v a ws ≤ 1000000 * (a.length : Int)
  | [], ws, _ => by cases ws <;> simp [wsum]
  | n :: a, [], _ => by simp [wsum]; omega
  | n :: a, x :: ws, h => by
    have h1 := wsum_bd ks v a ws fun y hy => h y (by simp [hy])
    have h2 := h x (by simp)
    simp only [wsum, List.length_cons]
    split <;> omega
theorem bestK_bd {ks : List Kn} {N : Nat} {nodes : List Nat} {ws : List Int} (hw : ∀ x ∈ ws, -1000000 ≤ x ∧ x ≤ 1000000) (hn : nodes.length ≤ 1000) (l : List Bool) : leastI ≤ bestK ks N nodes ws l ∧ bestK ks N nodes ws l ≤ 1000000000 := by
  refine ⟨maxL_least _, ?_⟩
  rcases (by have := maxL_least ((exts (N - l.length) l).map fun x => valI ks (vf x) nodes ws); omega : maxL ((exts (N - l.length) l).map fun x => valI ks (vf x) nodes ws) = leastI ∨ leastI < maxL ((exts (N - l.length) l).map fun x => valI ks (vf x) nodes ws)) with h | h
  · unfold bestK; rw [h]; unfold leastI; omega
  · have := maxL_attained _ h
    rw [List.mem_map] at this
    obtain ⟨x, _, hx⟩ := this
    unfold bestK
    rw [← hx]
    unfold valI
    split
    · unfold leastI; omega
    · rename_i n ns
      have := wsum_bd ks (vf x) ns ws hw
      simp only [List.length_cons] at hn
      split
      · omega
      · unfold leastI; omega
/-- What best leaves. -/
structure BstR (F : Fo) (wp : Nat) (wsv : Value) (ws : List Int) (kb d : Nat) (w : World) (cnt : Nat) (w' : World) (m' : SmL → Option Int) (cnt' : Nat) : Prop where
  keep : Keeps (fun k => k = kb) w w'
  here : WgAt w' F wp wsv ws kb cnt' m'
  cnt : cnt' + 1 ≤ cnt + 2 ^ (d + 1)
theorem BstR.cells {F : Fo} {wp : Nat} {wsv : Value} {ws : List Int} {kb d : Nat} {w : World} {cnt : Nat} {w' : World} {m m' : SmL → Option Int} {cnt' : Nat} (r : BstR F wp wsv ws kb d w cnt w' m' cnt') (h : WgAt w F wp wsv ws kb cnt m) : ∀ b o, b < w.heap.size → w'.cell? ⟨b, o, none⟩ = w.cell? ⟨b, o, none⟩ := keepsMap r.keep h.map r.here.map
set_option maxRecDepth 100000 in
theorem bestNo_any (wp : Nat) (ns : List Nat) (v : Value) (w : World) (hn : Nods w w.heap.size v (0 :: ns)) :
    Calls Try.prog 162 #[.pointer (some ⟨wp, 0, none⟩), v] w fun e w' => e = .returned (.int .i64 leastI) ∧ w = w' := by
  obtain ⟨A, b0, off, cap, rfl, hnc, hA, hc⟩ := hn
  obtain ⟨rfl, hbb⟩ : A = some ⟨b0, off, none⟩ ∧ b0 < w.heap.size := by
    rcases hA with h | h
    · exact h
    · simp at h
  have c0 := hc 0 0 (by simp) (by omega)
  simp only [Nat.zero_mul, Nat.add_zero, List.getD_cons_zero] at c0
  have hlen : 0 < (0 :: ns).length := by simp
  have hlen2 : (0 : Int) < ((0 :: ns).length : Int) := by omega
  obtain ⟨n, hn⟩ : ∃ n, (0 :: ns).length = n := ⟨_, rfl⟩
  rw [hn] at hlen hlen2 ⊢
  clear hc hA hnc hn
  go_enter Try.func162, Try.ntmps162
  go_wp2_with fail
  go_ret
  exact ⟨rfl, rfl⟩
theorem tminK_ge {ks : List Kn} {t : Nat} : ∀ (l : List Nat) (N : Nat), t ≤ N → (∀ n ∈ l, t ≤ topK ks n) → t ≤ tminK ks N l
  | [], N, h, _ => h
  | a :: l, N, h, h2 => tminK_ge l (min N (topK ks a)) (by have := h2 a (by simp); omega) fun n hn => h2 n (by simp [hn])
theorem min_val {a b : Nat} : Value.int .i64 (if b < a then (b : Int) else (a : Int)) = .int .i64 ((min a b : Nat) : Int) := by
  split
  · congr 1; omega
  · congr 1; omega
set_option maxRecDepth 100000 in
set_option maxHeartbeats 8000000 in
theorem best_any (F : Fo) (wp : Nat) (wsv : Value) (ws : List Int) (kb : Nat) (hw : ∀ x ∈ ws, -1000000 ≤ x ∧ x ≤ 1000000) (hws : ws.length ≤ 900) : ∀ (d : Nat) (nodes : List Nat) (v : Value) (w : World) (m : SmL → Option Int) (cnt : Nat), WgAt w F wp wsv ws kb cnt m → nodes.length = ws.length + 1 → (∀ n ∈ nodes, n < F.ks.length) → F.N - tminK F.ks F.N nodes ≤ d → Nods w w.heap.size v nodes → cnt + 2 ^ (d + 1) ≤ 1073741824 →
    Calls Try.prog 162 #[.pointer (some ⟨wp, 0, none⟩), v] w
      fun e w' => ∃ m' cnt', e = .returned (.int .i64 (bestK F.ks F.N nodes ws [])) ∧ BstR F wp wsv ws kb d w cnt w' m' cnt' := by
  intro d
  induction d using Nat.strongRecOn with
  | ind d ih =>
  intro nodes v w m cnt h hlen hlt hd hn hc
  have hpp := pow_pos2 (d + 1)
  obtain ⟨n0, ns, rfl⟩ : ∃ n0 ns, nodes = n0 :: ns := by
    match nodes, hlen with
    | [], hlen => simp at hlen
    | n0 :: ns, _ => exact ⟨n0, ns, rfl⟩
  by_cases h0 : n0 = 0
  · subst h0
    refine (bestNo_any wp ns v w hn).mono ?_
    rintro e w' ⟨rfl, rfl⟩
    exact ⟨m, cnt, by rw [bestK_no], ⟨Keeps.refl _ _, h, by omega⟩⟩
  have h01 : ((n0 : Int) == 0) = false := by simp; omega
  have hn' := hn
  obtain ⟨A, b0, off, cap, rfl, hnc, hA, hcell⟩ := hn'
  obtain ⟨rfl, hbb⟩ : A = some ⟨b0, off, none⟩ ∧ b0 < w.heap.size := by
    rcases hA with h | h
    · exact h
    · simp at h
  have c0 := hcell 0 0 (by simp) (by omega)
  simp only [Nat.zero_mul, Nat.add_zero, List.getD_cons_zero] at c0
  obtain ⟨nodes, hnd⟩ : ∃ nodes, n0 :: ns = nodes := ⟨_, rfl⟩
  have hn0 : nodes.getD 0 0 = n0 := by rw [← hnd]; rfl
  rw [hnd] at hlen hlt hd hn hnc hcell ⊢
  have hl0 : 0 < nodes.length := by omega
  have hl1 : (0 : Int) < (nodes.length : Int) := by omega
  have hl2 : (nodes.length : Int) ≤ 1000 := by omega
  have e0 := cellOf h.box 0
  have e1 := cellOf h.box 1
  have e2 := cellOf h.box 2
  have d0 := h.fo.cellN
  have d1 := h.fo.cellS
  have hsm := h.fo.small
  obtain ⟨Aw, bw, offw, capw, rfl, hncw, hAw, hcw⟩ := h.wts
  have H := hide h
  have HN := hide hn
  have HC := hide hcell
  have HLT := hide hlt
  have HAW := hide hAw
  have HCW := hide hcw
  have HW := hide hw
  have HIH := hide ih
  have HD : Hid (F.N - tminK F.ks F.N nodes ≤ d ∧ cnt + 2 ^ (d + 1) ≤ 1073741824) := ⟨hd, hc⟩
  have HND : Hid (n0 :: ns = nodes ∧ nodes.getD 0 0 = n0 ∧ n0 ≠ 0) := ⟨hnd, hn0, h0⟩
  have HLEN : Hid (nodes.length = ws.length + 1) := hlen
  clear h hn hcell hlt hAw hcw hw ih hd hc hnd hn0 h0 hA hlen hpp
  go_enter Try.func162, Try.ntmps162
  go_wp2_with fail
  go_loop [5, 6, 26] (fun t s i => ∃ k : Nat, k ≤ nodes.length ∧ i = .int .i64 k ∧ t = .int .i64 (tminK F.ks F.N (nodes.take k) : Nat) ∧ s = .int .i64 (sumP (nodes.take k) ws)) (fun _ _ i => nodes.length - (intOf i).toNat)
  case atStart => exact ⟨0, Nat.zero_le _, rfl, rfl, rfl⟩
  case round =>
    obtain ⟨k, hk, rfl, rfl, rfl⟩ := hrel
    by_cases hkl : k < nodes.length
    · obtain ⟨x, hx⟩ : ∃ x, nodes.getD k 0 = x := ⟨_, rfl⟩
      have hxl : x < F.ks.length := HLT.out x (by rw [← hx]; exact getD_mem hkl)
      have c1 : w.cell? ⟨b0, off + k, none⟩ = some (.int .i64 (x : Nat)) := by
        have h1 := HC.out k 0 hkl (by omega)
        rwa [Nat.mul_one, Nat.add_zero, hx] at h1
      obtain ⟨k0, _, _⟩ := H.out.fo.knot hxl
      have hx0 : (0 : Int) ≤ (x : Int) := by omega
      have hx1 : (x : Int) < (F.ks.length : Int) := by omega
      have hts := tminK_snoc F.ks F.N (nodes.take k) x
      have hss := sumP_snoc (l := nodes.take k) (n := x) (ws := ws) (by have := HLEN.out; simp; omega)
      rw [← hx, ← take_getD hkl, hx] at hts hss
      have hlk : (nodes.take k).length = k := by simp; omega
      rw [hlk] at hss
      obtain ⟨t, ht⟩ : ∃ t, tminK F.ks F.N (nodes.take k) = t := ⟨_, rfl⟩
      obtain ⟨s, hs⟩ : ∃ s, sumP (nodes.take k) ws = s := ⟨_, rfl⟩
      have hsb := wyes_bd ((nodes.take k).drop 1) ws HW.out
      have hsb2 : -1000000000 ≤ s ∧ s ≤ 1000000000 := by
        rw [← hs]
        unfold sumP
        have : ((nodes.take k).drop 1).length ≤ 1000 := by simp; omega
        omega
      obtain ⟨hs1, hs2⟩ := hsb2
      rw [ht] at hts ⊢
      rw [hs] at hss ⊢
      have HTS := hide hts
      have HSS := hide hss
      have HX0 := hide hx
      clear hts hss hlk ht hs hsb hx
      by_cases hk0 : k = 0
      · subst hk0
        obtain rfl : n0 = x := HND.out.2.1.symm.trans HX0.out
        have hf : ¬ (0 : Int) < ((0 : Nat) : Int) := by omega
        go_wp2_with fail
        go_round
        case rel => exact ⟨1, by omega, rfl, by rw [HTS.out]; exact min_val, by rw [HSS.out, if_neg (by omega)]; simp⟩
        case measure => simp [intOf]; omega
      · have hf : (0 : Int) < (k : Int) := by omega
        by_cases hx1' : x = 1
        · have hxe : ((x : Int) == 1) = true := by simp [hx1']
          have hkw : k - 1 < ws.length := by have := HLEN.out; omega
          obtain ⟨y, hy⟩ : ∃ y, ws.getD (k - 1) 0 = y := ⟨_, rfl⟩
          have hyb := HW.out y (by rw [← hy]; exact getD_mem hkw)
          obtain ⟨rfl, hbw⟩ : Aw = some ⟨bw, offw, none⟩ ∧ bw < w.heap.size := by
            rcases HAW.out with h | h
            · exact h
            · omega
          have g0 : w.cell? ⟨bw, offw + (k - 1), none⟩ = some (.int .i64 y) := by
            have h1 := HCW.out (k - 1) 0 hkw (by omega)
            rwa [Nat.mul_one, Nat.add_zero, hy] at h1
          have j0 : (1 : Int) ≤ (k : Int) := by omega
          have j1 : ((k : Int) - 1).toNat = k - 1 := by omega
          have j2 : (k : Int) - 1 < (ws.length : Int) := by omega
          obtain ⟨hy1, hy2⟩ := hyb
          have HX := hide hx1'
          have HY := hide hy
          have HK := hide hk0
          clear hx1' hy hk0 hkw
          go_wp2_with fail
          go_round
          case rel => exact ⟨k + 1, by omega, by go_num, by rw [HTS.out]; exact min_val, by rw [HSS.out, if_pos ⟨by have := HK.out; omega, HX.out⟩, HY.out]⟩
          case measure => simp [intOf]; omega
        · have hxe : ((x : Int) == 1) = false := by simp; omega
          have HX := hide hx1'
          clear hx1' hk0
          go_wp2_with fail
          go_round
          case rel => exact ⟨k + 1, by omega, by go_num, by rw [HTS.out]; exact min_val, by rw [HSS.out, if_neg (fun e => HX.out e.2)]; simp⟩
          case measure => simp [intOf]; omega
    · obtain rfl : k = nodes.length := by omega
      rw [List.take_length]
      obtain ⟨hml, hmle⟩ := tminK_le F.ks nodes F.N
      obtain ⟨t, ht⟩ : ∃ t, tminK F.ks F.N nodes = t := ⟨_, rfl⟩
      have hsb := wyes_bd (nodes.drop 1) ws HW.out
      have hsb2 : ((nodes.drop 1).length : Int) ≤ 1000 := by simp; omega
      rw [ht] at hml hmle ⊢
      by_cases htN : t = F.N
      · have hends : ∀ n ∈ nodes, n < 2 := fun n hn => by
          rcases Nat.lt_or_ge n 2 with h2 | h2
          · exact h2
          · have := H.out.fo.wf.opt n h2 (HLT.out n hn)
            have := hmle n hn
            omega
        have hb1 : bestK F.ks F.N nodes ws [] = sumP nodes ws := by
          obtain ⟨q1, q2, q3⟩ := HND.out
          have : n0 = 1 := by have := hends n0 (by rw [← q1]; simp); omega
          rw [← q1, this]
          have h5 : sumP (1 :: ns) ws = wyes ns ws := rfl
          rw [h5]
          refine bestK_ends [] (fun n hn => hends n (by rw [← q1]; simp [hn])) ?_
          have h6 : nodes.drop 1 = ns := by rw [← q1]; rfl
          rw [h6] at hsb hsb2
          unfold leastI
          omega
        have hte : ((t : Int) == (F.N : Int)) = true := by simp [htN]
        have HB1 := hide hb1
        have hpp := pow_pos2 (d + 1)
        have HPP := hide hpp
        clear htN hends hb1 hsb hsb2 ht hml hmle hpp
        go_wp2_with fail
        go_ret
        exact ⟨ret_int HB1.out.symm, m, cnt, ⟨Keeps.refl _ _, H.out, by have := HPP.out; omega⟩⟩
      · have htN2 : t < F.N := by omega
        have hte : ((t : Int) == (F.N : Int)) = false := by simp; omega
        have hsm30 : ∀ n ∈ nodes, n < 1073741824 := fun n hn => by have := HLT.out n hn; omega
        have hkey := key_any nodes (.slice (some ⟨b0, off, none⟩) nodes.length cap) w.heap.size w (by omega) hsm30 HN.out (Nat.le_refl _)
        have HKEY := hide hkey
        obtain ⟨s, hs⟩ : ∃ s, sumP nodes ws = s := ⟨_, rfl⟩
        rw [hs]
        have HS30 := hide hsm30
        have HT := hide ht
        have HMLE := hide hmle
        obtain ⟨kl, hkl⟩ := enSKey (a := ⟨nodes, HS30.out⟩) (by show nodes.length ≤ 1000; omega)
        have HKL := hide hkl
        clear htN hsb hsb2 ht hml hmle hkey hs hsm30 hkl
        cases hmx : m ⟨nodes, HS30.out⟩ with
        | some x =>
          have hxe : x = bestK F.ks F.N nodes ws [] := H.out.ok _ _ hmx
          have HXE := hide hxe
          have HMX := hide hmx
          have hpp := pow_pos2 (d + 1)
          have HPP := hide hpp
          clear hxe hmx hpp
          go_wp2_with (go_at_call 174; refine HKEY.out.mono ?_; rintro e w1 ⟨rfl, hB1⟩; have HB1 := hide hB1; have hwg := H.out.below hB1; have HWG := hide hwg; have f0 := cellOf hwg.box 0; have f1 := cellOf hwg.box 1; have f2 := cellOf hwg.box 2; have hlk : (Instr.lookup 176 (.map (some kb)) (.string (kyS nodes)) true).run Try.prog w1 = .ok (.tuple #[.int .i64 x, .bool true]) w1 := (by have h1 := hwg.map.look stLaw Try.underlying176 Try.underlying3 (zInt w1) HKL.out; rw [HMX.out] at h1; exact h1); clear hB1 hwg)
          go_ret
          first | exact ⟨ret_int HXE.out, m, cnt, ⟨Keeps.of_below HB1.out, HWG.out, by have := HPP.out; omega⟩⟩ | exact ⟨m, cnt, ret_int HXE.out, ⟨Keeps.of_below HB1.out, HWG.out, by have := HPP.out; omega⟩⟩
        | none =>
          have HMX := hide hmx
          clear hmx
          have hd1 : 1 ≤ d := by have := HD.out.1; have := HT.out; omega
          have hp2 : 2 ^ (d + 1) = 2 ^ (d - 1 + 1) + 2 ^ (d - 1 + 1) := by rw [show d - 1 + 1 = d by omega, Nat.pow_succ]; omega
          have HP2 := hide hp2
          have hsl : ∀ b, ∀ n ∈ nodes.map (fun n => brK F.ks n t b), n < F.ks.length := fun b n hn => by
            rw [List.mem_map] at hn
            obtain ⟨x, hx, rfl⟩ := hn
            exact brK_lt H.out.fo.wf (HLT.out x hx) htN2
          have hst : ∀ b, F.N - tminK F.ks F.N (nodes.map fun n => brK F.ks n t b) ≤ d - 1 := fun b => by
            have h1 : t + 1 ≤ tminK F.ks F.N (nodes.map fun n => brK F.ks n t b) := tminK_ge _ _ (by omega) fun n hn => by
              rw [List.mem_map] at hn
              obtain ⟨x, hx, rfl⟩ := hn
              exact brK_top H.out.fo.wf (HLT.out x hx) htN2 (HMLE.out x hx)
            have h2 := HD.out.1
            rw [HT.out] at h2
            omega
          have hbs := bestK_step H.out.fo.wf (ws := ws) HLT.out htN2 HMLE.out
          have hba := bestK_bd (ks := F.ks) (N := F.N) (nodes := nodes.map fun n => brK F.ks n t false) HW.out (by simp; omega) []
          have hbb2 := bestK_bd (ks := F.ks) (N := F.N) (nodes := nodes.map fun n => brK F.ks n t true) HW.out (by simp; omega) []
          obtain ⟨a, ha⟩ : ∃ a, bestK F.ks F.N (nodes.map fun n => brK F.ks n t false) ws [] = a := ⟨_, rfl⟩
          obtain ⟨b, hb⟩ : ∃ b, bestK F.ks F.N (nodes.map fun n => brK F.ks n t true) ws [] = b := ⟨_, rfl⟩
          rw [ha] at hbs hba
          rw [hb] at hbs hbb2
          unfold leastI at hba hbb2
          have hwf : (Lit.int .i64 a).wf = true ∧ (Lit.int .i64 b).wf = true := ⟨wf63 (by unfold I63; omega), wf63 (by unfold I63; omega)⟩
          have HSL := hide hsl
          have HST := hide hst
          have HBS := hide hbs
          have HAB := hide (And.intro ha hb)
          have HWF := hide hwf
          clear hp2 hsl hst hbs hba hbb2 ha hb hwf
          go_wp2_with (go_at_call 174; refine HKEY.out.mono ?_; rintro e w1 ⟨rfl, hB1⟩; have HB1 := hide hB1; have hwg := H.out.below hB1; have HWG := hide hwg; have f0 := cellOf hwg.box 0; have f1 := cellOf hwg.box 1; have f2 := cellOf hwg.box 2; have hlk : (Instr.lookup 176 (.map (some kb)) (.string (kyS nodes)) true).run Try.prog w1 = .ok (.tuple #[.int .i64 0, .bool false]) w1 := (by have h1 := hwg.map.look stLaw Try.underlying176 Try.underlying3 (zInt w1) HKL.out; rw [HMX.out] at h1; exact h1); clear hB1 hwg)
          have hN1 : Nods w1 w1.heap.size (.slice (some ⟨b0, off, none⟩) nodes.length cap) nodes := HN.out.up HB1.out
          have HN1 := hide hN1
          clear hN1 hlk f0 f1 f2
          refine (step_any F wp _ ws kb cnt m nodes t false _ w1 HWG.out (by omega) HLT.out HN1.out).mono ?_
          rintro e w2 ⟨v2, rfl, hn2, hB2⟩
          obtain ⟨A2, cap2, rfl⟩ := Sl.form hn2
          rw [List.length_map] at hn2 ⊢
          have hwg2 := HWG.out.below hB2
          have HB2 := hide hB2
          have HWG2 := hide hwg2
          have HN2 : Hid (Nods w2 w2.heap.size (.slice (some ⟨b0, off, none⟩) nodes.length cap) nodes) := HN1.out.up hB2
          have hbe := HIH.out (d - 1) (by omega) (nodes.map fun n => brK F.ks n t false) _ w2 m cnt hwg2 (by rw [List.length_map]; exact HLEN.out) (HSL.out false) (HST.out false) hn2 (by have := HD.out.2; have := HP2.out; have := pow_pos2 (d - 1 + 1); omega)
          rw [HAB.out.1] at hbe
          have HBE := hide hbe
          clear hn2 hB2 hwg2 hbe
          go_wp2_with fail
          refine HBE.out.mono ?_
          rintro e w3 ⟨m1, cnt1, rfl, r1⟩
          have R1 := hide r1
          have HN3 : Hid (Nods w3 w3.heap.size (.slice (some ⟨b0, off, none⟩) nodes.length cap) nodes) := Sl.more (Sl.keep HN2.out (r1.cells HWG2.out)) r1.keep.size
          clear r1
          go_wp2_with fail
          refine (step_any F wp _ ws kb cnt1 m1 nodes t true _ w3 R1.out.here (by omega) HLT.out HN3.out).mono ?_
          rintro e w4 ⟨v4, rfl, hn4, hB4⟩
          obtain ⟨A4, cap4, rfl⟩ := Sl.form hn4
          rw [List.length_map] at hn4 ⊢
          have hwg4 := R1.out.here.below hB4
          have HB4 := hide hB4
          have hbe := HIH.out (d - 1) (by omega) (nodes.map fun n => brK F.ks n t true) _ w4 m1 cnt1 hwg4 (by rw [List.length_map]; exact HLEN.out) (HSL.out true) (HST.out true) hn4 (by have := HD.out.2; have := HP2.out; have := R1.out.cnt; have := pow_pos2 (d - 1 + 1); omega)
          rw [HAB.out.2] at hbe
          have HBE4 := hide hbe
          clear hn4 hB4 hwg4 hbe
          go_wp2_with fail
          refine HBE4.out.mono ?_
          rintro e w5 ⟨m2, cnt2, rfl, r2⟩
          have R2 := hide r2
          have f0 := cellOf r2.here.box 0
          have f1 := cellOf r2.here.box 1
          have f2 := cellOf r2.here.box 2
          have hcn : cnt2 < maxLen := by
            have h1 := R1.out.cnt
            have h2 := r2.cnt
            have h3 := HD.out.2
            have h4 := HP2.out
            unfold maxLen; omega
          clear r2
          by_cases hab : a < b
          · have HAB2 : Hid (a < b) := hab
            go_wp2_with (at_mapUpdate; go_must (refine wpList_put _ rfl _ _ _ 176 rfl R2.out.here.map stLaw Try.underlying176 Try.underlying3 enS_inj hcn ⟨nodes, HS30.out⟩ ⟨_, HKL.out⟩ b HWF.out.2 rfl rfl rfl ?_); intro w9 hm9 hg9; have HM9 := hide hm9; have HG9 := hide hg9; clear hm9 hg9)
            go_ret
            have hk9 : Keeps (fun i => i = kb) w5 w9 := Keeps.of_grown HG9.out (fun k hk => by injection hk with hk; exact hk.symm)
            have hbest : bestK F.ks F.N nodes ws [] = b := by have := HAB2.out; rw [HBS.out]; omega
            first | refine ⟨ret_int hbest.symm, _, _, ⟨?_, R2.out.here.turn hk9 HM9.out (fun q x hq => ?_), ?_⟩⟩ | refine ⟨_, _, ret_int hbest.symm, ⟨?_, R2.out.here.turn hk9 HM9.out (fun q x hq => ?_), ?_⟩⟩
            · have k1 : Keeps (fun i => i = kb) w w3 := (Keeps.of_below (Below.to HB1.out HB2.out (Nat.le_refl _))).trans R1.out.keep (fun _ _ h => h)
              have k2 : Keeps (fun i => i = kb) w3 w5 := (Keeps.of_below HB4.out).trans R2.out.keep (fun _ _ h => h)
              exact (k1.trans k2 (fun _ _ h => h)).trans hk9 (fun _ _ h => h)
            · unfold putM at hq
              split at hq
              · rename_i e
                injection hq with hq
                rw [e, ← hq]
                exact hbest.symm
              · exact R2.out.here.ok q x hq
            · have h1 := R1.out.cnt
              have h2 := R2.out.cnt
              have h4 := HP2.out
              omega
          · have HAB2 : Hid (¬ a < b) := hab
            go_wp2_with (at_mapUpdate; go_must (refine wpList_put _ rfl _ _ _ 176 rfl R2.out.here.map stLaw Try.underlying176 Try.underlying3 enS_inj hcn ⟨nodes, HS30.out⟩ ⟨_, HKL.out⟩ a HWF.out.1 rfl rfl rfl ?_); intro w9 hm9 hg9; have HM9 := hide hm9; have HG9 := hide hg9; clear hm9 hg9)
            go_ret
            have hk9 : Keeps (fun i => i = kb) w5 w9 := Keeps.of_grown HG9.out (fun k hk => by injection hk with hk; exact hk.symm)
            have hbest : bestK F.ks F.N nodes ws [] = a := by have := HAB2.out; rw [HBS.out]; omega
            first | refine ⟨ret_int hbest.symm, _, _, ⟨?_, R2.out.here.turn hk9 HM9.out (fun q x hq => ?_), ?_⟩⟩ | refine ⟨_, _, ret_int hbest.symm, ⟨?_, R2.out.here.turn hk9 HM9.out (fun q x hq => ?_), ?_⟩⟩
            · have k1 : Keeps (fun i => i = kb) w w3 := (Keeps.of_below (Below.to HB1.out HB2.out (Nat.le_refl _))).trans R1.out.keep (fun _ _ h => h)
              have k2 : Keeps (fun i => i = kb) w3 w5 := (Keeps.of_below HB4.out).trans R2.out.keep (fun _ _ h => h)
              exact (k1.trans k2 (fun _ _ h => h)).trans hk9 (fun _ _ h => h)
            · unfold putM at hq
              split at hq
              · rename_i e
                injection hq with hq
                rw [e, ← hq]
                exact hbest.symm
              · exact R2.out.here.ok q x hq
            · have h1 := R1.out.cnt
              have h2 := R2.out.cnt
              have h4 := HP2.out
              omega
end Go.Proofs.Ytmabfnddedffoaa
/- Most: walk. -/
namespace Go.Proofs.Ytmabfnddedffoaa
open Go.RowKit
open Go.Maps (Keyed)
set_option linter.unusedVariables false
set_option linter.unusedSimpArgs false
theorem Stk.push {B : Nat} {w w1 : World} {F : Fo} {A : Option Addr} {n cap m : Nat} {S : List Nat} {v1 : Value} {o : Obj} (h : Stk B w F (.slice A n cap) S) (hF : FoAt w F) (hown : w1.ownsRow B 3 1 v1 (S.length + 1) ((S.map fun (n : Nat) => Value.int .i64 n) ++ [.int .i64 (m : Nat)])) (hg : (w.alloc o).grownBy w1 (Value.slice A n cap).ownBlock)
    (hat : v1.ownBlock = (Value.slice A n cap).ownBlock ∨ v1.ownBlock = some (w.alloc o).heap.size) : Stk B w1 F v1 (S ++ [m]) ∧ Keeps (fun i => (Value.slice A n cap).ownBlock = some i) w w1 := by
  refine ⟨⟨?_, fun b hb hs => ?_⟩, Keeps.trans ((Keeps.refl _ w).alloc _) (Keeps.of_grown hg (fun k hk => hk)) (fun _ _ h => h)⟩
  · rw [List.length_append, List.length_singleton, List.map_append]; exact hown
  · rcases hat with e | e
    · exact h.2 b (by rw [← hb, e]) hs
    · rw [hb] at e
      injection e with e
      have := hF.slt hs
      simp at e
      omega
def Bols (w : World) (B : Nat) (v : Value) (l : List Bool) : Prop := Sl w B 1 v l.length (fun i _ => .bool (l.getD i false))
/-- A variant being made: the first choices, and then none. -/
def VarAt (w : World) (b N : Nat) (l : List Bool) : Prop := w.heap[b]? = some (.cells ((l ++ List.replicate (N - l.length) false).map Value.bool).toArray 4 (0, 0))
theorem VarAt.cell {w : World} {b N : Nat} {l : List Bool} (h : VarAt w b N l) (hl : l.length < N) : w.cell? ⟨b, l.length, none⟩ = some (.bool false) := by
  rw [cellOf h]
  simp only [List.getElem?_toArray, List.getElem?_map]
  rw [List.getElem?_append_right (Nat.le_refl _), Nat.sub_self, List.getElem?_replicate, if_pos (by omega)]
  rfl
theorem VarAt.set {w : World} {b N : Nat} {l : List Bool} (h : VarAt w b N l) (hl : l.length < N) (x : Bool) : VarAt (w.setCell ⟨b, l.length, none⟩ (.bool x)) b N (l ++ [x]) := by
  unfold VarAt
  rw [setCellOf h]
  congr 2
  rw [List.setIfInBounds_toArray]
  congr 1
  have e : N - l.length = (N - (l ++ [x]).length) + 1 := by simp; omega
  rw [e, List.replicate_succ]
  simp
theorem VarAt.bols {w : World} {b : Nat} {l : List Bool} (h : VarAt w b l.length l) : Bols w w.heap.size (.slice (some ⟨b, 0, none⟩) l.length l.length) l :=
  ⟨_, b, 0, _, rfl, Nat.le_refl _, .inl ⟨rfl, box_lt h⟩, fun i j hi hj => by
    obtain rfl : j = 0 := by omega
    rw [Nat.mul_one, Nat.add_zero, Nat.zero_add, cellOf h]
    simp [hi]⟩
theorem made_bools (N : Nat) : madeCells #[.bool false] N = (((List.replicate N false).map Value.bool).toArray) := by
  apply Array.ext
  · simp [madeCells]
  · intro i h1 h2
    simp [madeCells, Nat.mod_one]
theorem infoBool : (Try.prog.info? 4).map (fun i => (i.zero, i.size, i.bytes)) = some (some (.bool false), 1, 1) := by kernel_rfl
/-- What Most gives where nothing is wrong. -/
def MostR (m : Mo) (l : List (List Int)) (ws : List Int) (w : World) (e : Ending) (w' : World) : Prop :=
  ∃ v x, e = .returned (.tuple #[.int .i64 (bestF m l ws), v, .int .i64 0]) ∧ (exts m.opts.length []).find? (fun y => valF m l ws y == bestF m l ws) = some x ∧ x.length = m.opts.length ∧ Bols w' w'.heap.size v x ∧ Below w.heap.size w w'
theorem fsum_bd (v : Nat → Bool) : ∀ (a : List (List Int)) (ws : List Int), (∀ x ∈ ws, -1000000 ≤ x ∧ x ≤ 1000000) → -1000000 * (a.length : Int) ≤ fsum v a ws ∧ fsum v a ws ≤ 1000000 * (a.length : Int)
  | [], ws, _ => by cases ws <;> simp [fsum]
  | n :: a, [], _ => by simp [fsum]; omega
  | n :: a, x :: ws, h => by
    have h1 := fsum_bd v a ws fun y hy => h y (by simp [hy])
    have h2 := h x (by simp)
    simp only [fsum, List.length_cons]
    split <;> omega
theorem bestF_big {m : Mo} {l : List (List Int)} {ws : List Int} (hw : ∀ x ∈ ws, -1000000 ≤ x ∧ x ≤ 1000000) (hl : l.length ≤ 1000) (hs : satM m (fun _ => true) ≠ []) : leastI < bestF m l ws := by
  obtain ⟨x, hx⟩ := List.exists_mem_of_ne_nil _ hs
  unfold satM at hx
  rw [List.mem_filter] at hx
  have h1 := maxL_mem ((exts m.opts.length []).map (valF m l ws)) (valF m l ws x) (List.mem_map.2 ⟨x, hx.1, rfl⟩)
  have h2 : valF m l ws x = fsum (vf x) l ws := by
    unfold valF; rw [if_pos]; simpa using hx.2
  have h3 := fsum_bd (vf x) l ws hw
  unfold bestF
  unfold leastI at *
  omega
theorem WgAt.setOther {w : World} {F : Fo} {wp : Nat} {wsv : Value} {ws : List Int} {kb cnt : Nat} {m : SmL → Option Int} (h : WgAt w F wp wsv ws kb cnt m) {p : Addr} {u : Value} (h1 : p.block ≠ wp) (h2 : p.block ≠ kb) (h3 : ¬ SF F p.block) (hw : Ints (w.setCell p u) (w.setCell p u).heap.size wsv ws) : WgAt (w.setCell p u) F wp wsv ws kb cnt m :=
  ⟨(Below.heap_setCell _ _ _ _ (fun e => h1 e.symm)).trans h.box, h.fo.same (fun k hk => Below.heap_setCell _ _ _ _ (fun e => h3 (e ▸ hk))), hw, h.map.same (Below.heap_setCell _ _ _ _ (fun e => h2 e.symm)), h.ok, h.nS⟩
theorem Nods.setBool {w : World} {B b N k : Nat} {v : Value} {ns : List Nat} {ls : List Bool} {u : Value} (h : Nods w B v ns) (hv : VarAt w b N ls) : Nods (w.setCell ⟨b, k, none⟩ u) B v ns := by
  obtain ⟨A, b0, off, cap, h1, h2, h3, h4⟩ := h
  refine ⟨A, b0, off, cap, h1, h2, h3, fun i j hi hj => ?_⟩
  rw [← h4 i j hi hj]
  have hne : b0 ≠ b := by
    intro e
    have h5 := h4 i j hi hj
    rw [e, cellOf hv] at h5
    simp only [List.getElem?_toArray, List.getElem?_map] at h5
    generalize (ls ++ List.replicate (N - ls.length) false)[off + (i * 1 + j)]? = q at h5
    cases q with
    | none => simp at h5
    | some x => simp at h5
  exact World.cell?_of_block (Below.heap_setCell _ _ _ _ hne)
theorem VarAt.below {w w' : World} {b N : Nat} {ls : List Bool} (h : VarAt w b N ls) (hb : Below w.heap.size w w') : VarAt w' b N ls := box_to h hb
set_option maxRecDepth 100000 in
set_option maxHeartbeats 16000000 in
theorem Most_ok (m : Mo) (l : List (List Int)) (ws : List Int) (ov rv lv wv : Value) (w : World) (hs : SizedM m) (hl : Sized l) (h : MoAt w w.heap.size ov rv m) (hf : Forms w w.heap.size lv l) (hws : Ints w w.heap.size wv ws) (he : m.errF l = 0) (hN : m.opts.length ≤ 12) (hl200 : l.length ≤ 200) (hlw : ws.length = l.length) (hw : ∀ x ∈ ws, -1000000 ≤ x ∧ x ≤ 1000000) (hsat : satM m (fun _ => true) ≠ []) :
    Calls Try.prog 138 #[.agg #[ov, rv], lv, wv] w (MostR m l ws w) := by
  have hmm := @run_makeMap Try.prog
  obtain ⟨i0, hi0, iz0, iz1, iz2⟩ := info_parts infoInt
  obtain ⟨i1, hi1, jz0, jz1, jz2⟩ := info_parts infoBool
  obtain ⟨A, cap, hov⟩ := Sl.form h.o
  obtain ⟨Ar, capr, hrv⟩ := h.r.form
  have H := hide h
  have HF := hide hf
  have HS := hide hs
  have HL := hide hl
  have HW := hide hw
  have HSAT := hide hsat
  have HOK := hide (Mo.okF he)
  have HE := hide he
  have HWS := hide hws
  have HLW : Hid (ws.length = l.length) := hlw
  obtain ⟨fvs, ⟨Al, bl, offl, capl, rfl, hncl, hAl, hcl⟩, hfi⟩ := hf
  obtain ⟨Aw, bw, offw, capw, rfl, hncw, hAw, hcw⟩ := hws
  have HAL := hide hAl
  have HCL := hide hcl
  have HFI := hide hfi
  have HAW := hide hAw
  have HCW := hide hcw
  have hz1 : ¬ (200 : Int) < (l.length : Int) := by omega
  have hz2 : ((ws.length : Int) != (l.length : Int)) = false := by rw [hlw]; simp
  have hz3 : (l.length : Int) ≤ 200 := by omega
  have hz4 : (ws.length : Int) ≤ 200 := by omega
  subst hov hrv
  clear h hs hl hw hsat he hlw hAl hcl hfi hAw hcw
  go_enter Try.func138, Try.ntmps138
  go_upto_region 1 with (fail)
  generalize hw0 : World.alloc _ _ = w0
  obtain ⟨hb0, hB0, hs0⟩ := alloc1 hw0
  clear hw0
  have c0 := cellOf hb0 0
  have c1 := cellOf hb0 1
  have HX0 : Hid (MoBox w0 w.heap.size (.slice A m.opts.length cap) (.slice Ar m.rules.length capr)) := hb0
  have HB0 := hide hB0
  have hck := CheckModel_any m (.slice A m.opts.length cap) (.slice Ar m.rules.length capr) w0 HS.out (H.out.up hB0)
  rw [HOK.out.1] at hck
  have HCK := hide hck
  clear hb0 hB0 hs0 hck
  go_wp2_with (go_at_call 52; refine HCK.out.mono ?_; rintro e w1 ⟨rfl, hB1⟩; have hbx := box_to HX0.out hB1; have d0 := cellOf hbx 0; have d1 := cellOf hbx 1; have HB1 : Hid (Below w.heap.size w w1) := Below.to HB0.out hB1 (Nat.le_refl _); clear hbx hB1 c0 c1)
  have hbe := begin_ok m l (.slice A m.opts.length cap) (.slice Ar m.rules.length capr) (.slice Al l.length capl) w1 HS.out HL.out (H.out.up HB1.out) (HF.out.up HB1.out) HE.out hN
  have HBE := hide hbe
  clear hbe
  refine HBE.out.mono ?_
  rintro e w2 ⟨F, n, rfl, r1⟩
  have R1 : Hid (BegR m w w2 F n) := r1.of HB1.out
  have hn0 : n ≠ 0 := by
    intro e
    subst e
    apply HSAT.out
    rw [← satM_node (ks := F.ks) (n := 0) r1.N (fun v => by rw [r1.ev v, Bool.and_true]), sat_zero]
  have hn1 : ((n : Int) == 0) = false := by simp; omega
  have hnl := r1.lt
  clear r1 hn0 d0 d1
  go_wp2_with fail
  go_loop [44] (fun i => ∃ k : Nat, k ≤ ws.length ∧ i = .int .i64 k) (fun i => ws.length - (intOf i).toNat)
  case atStart => exact ⟨0, Nat.zero_le _, rfl⟩
  case round =>
    obtain ⟨k, hk, rfl⟩ := hrel
    by_cases hkl : k < ws.length
    · obtain ⟨rfl, hbb⟩ : Aw = some ⟨bw, offw, none⟩ ∧ bw < w.heap.size := by
        rcases HAW.out with h | h
        · exact h
        · omega
      obtain ⟨x, hx⟩ : ∃ x, ws.getD k 0 = x := ⟨_, rfl⟩
      have hxb := HW.out x (by rw [← hx]; exact getD_mem hkl)
      have c0 : w2.cell? ⟨bw, offw + k, none⟩ = some (.int .i64 x) := by
        have h1 := HCW.out k 0 hkl (by omega)
        rw [Nat.mul_one, Nat.add_zero, hx] at h1
        exact (R1.out.below.cell (p := ⟨bw, offw + k, none⟩) hbb).trans h1
      have hx1 : ¬ x < -1000000 := by omega
      have hx2 : ¬ (1000000 : Int) < x := by omega
      clear hx hxb
      go_wp2_with fail
      go_round
      case rel => exact ⟨k + 1, by omega, by go_num⟩
      case measure => simp [intOf]; omega
    · clear hk
      go_wp2_with fail
      generalize hw0 : World.alloc _ _ = w3
      obtain ⟨hb0, hB0, hs0⟩ := alloc1 hw0
      clear hw0
      have HR3 : Hid (OpR 0 w2 F w3 F) := R1.out.op.then_below hB0
      have hst : Stk w2.heap.size w3 F (.slice (some ⟨w2.heap.size, 0, none⟩) 1 1) [n] := ⟨⟨rfl, .inr ⟨w2.heap.size, 1, _, rfl, Nat.le_refl _, hb0, Nat.le_refl _, by unfold maxLen; omega, rfl, rfl⟩⟩, fun b hb hsf => by
        have := R1.out.here.slt hsf
        simp [Value.ownBlock] at hb
        omega⟩
      have HST := hide hst
      have hB2 : Below w.heap.size w w2 := R1.out.below
      have HB2 := hide hB2
      have h2 := R1.out.here.wf.two
      clear hb0 hB0 hs0 hst hB2
      go_loopw [14, 61] (fun nv i wr => ∃ (k : Nat) (S : List Nat) (F1 : Fo), k ≤ l.length ∧ S.length = k + 1 ∧ i = .int .i64 k ∧ Hid (Stk w2.heap.size wr F1 nv S) ∧ Hid (OpR (100 * k) w2 F wr F1) ∧ Hid (∀ x ∈ S, x < F1.ks.length) ∧ Hid (∀ v, ev F1.ks v (S.getD 0 0) = allF v m.rules) ∧ Hid (∀ v i, i < k → ev F1.ks v (S.getD (i + 1) 0) = evF1 v (l.getD i []))) (fun _ i _ => l.length - (intOf i).toNat)
      case atStart => exact ⟨0, [n], F, Nat.zero_le _, rfl, rfl, HST.out, HR3.out, (fun x hx => by simp at hx; rw [hx]; exact hnl : ∀ x ∈ [n], x < F.ks.length), (fun v => by simpa using R1.out.ev v : ∀ v, ev F.ks v ([n].getD 0 0) = allF v m.rules), (fun v i hi => absurd hi (by omega) : ∀ v i, i < 0 → ev F.ks v ([n].getD (i + 1) 0) = evF1 v (l.getD i []))⟩
      case round =>
        obtain ⟨k, S, F1, hk, hSl, rfl, hS, hop, hSm, hev0, hevs⟩ := hrel
        have hbw := hop.out.low R1.out
        by_cases hkl : k < l.length
        · obtain ⟨rfl, hbb⟩ : Al = some ⟨bl, offl, none⟩ ∧ bl < w.heap.size := by
            rcases HAL.out with h | h
            · exact h
            · omega
          obtain ⟨f, hfe⟩ : ∃ f, l.getD k [] = f := ⟨_, rfl⟩
          have hfm : f ∈ l := by rw [← hfe]; exact getD_mem hkl
          have hfv := HOK.out.2 f hfm
          have hin : Ints w w.heap.size (fvs k) f := by have := HFI.out k hkl; rwa [hfe] at this
          obtain ⟨Af, capf, hff⟩ := Sl.form hin
          have c0 : wr.cell? ⟨bl, offl + k, none⟩ = some (.slice Af f.length capf) := by
            have h1 := HCL.out k 0 hkl (by omega)
            rw [Nat.mul_one, Nat.add_zero, hff] at h1
            exact (hbw.cell (p := ⟨bl, offl + k, none⟩) hbb).trans h1
          obtain ⟨A1, cap1, rfl, hcap1, hcap2⟩ := hS.out.shape
          have hgr := grow_beg R1.out hN hop.out (by omega) hin hfv
          rw [hff] at hgr
          have HGR := hide hgr
          have HFE := hide hfe
          have HSL : Hid (S.length = k + 1) := hSl
          have hS300 : S.length ≤ 300 := by omega
          clear hbw hfe hfm hfv hin hff hgr hSl
          go_wp2_with (first | (go_at_call 161; refine HGR.out.mono ?_; rintro e w4 ⟨g, F2, rfl, r1, r2, hg, r4⟩; have R2 := hide r1; have R3 := hide r2; have R4 := hide r4; have hs4 := hS.out.step r2.st; have HS4 := hide hs4; have hsz4 := r1.st.keep.size; clear r1 r2 r4 hs4) | (at_builtin; go_must (refine wpList_append_own_at _ rfl (.tmp 65) (.tmp 69) _ rfl w2.heap.size 3 i0 _ 1 8 Try.underlying41 hi0 iz0 iz1 iz2 rfl (by omega) _ _ _ rfl (HS4.out.1.alloc _) ⟨w4.heap.size, 0, none⟩ 1 1 [.int .i64 (g : Nat)] rfl rfl (World.news_of_block (heap_alloc_new w4 _)) (by simp [Value.oneCell']) (by unfold maxLen; omega) (by omega) (by simp; omega) ?_); intro v1 w5 hown1 hg1 _ hat1; have HP := hide (HS4.out.push R2.out.st.here hown1 hg1 hat1); clear hown1 hg1 hat1))
          go_roundw
          case rel =>
            refine ⟨k + 1, S ++ [g], F2, by omega, by have := HSL.out; simp; omega, by go_num, HP.out.1, ?_, fun x hx => ?_, fun v => ?_, fun v i hi => ?_⟩
            · exact (R2.out.mono (l := 100 * (k + 1)) (by omega)).own HP.out.2 (fun i hi => (HS4.out.1.lt i hi).1) (fun i hs hi => HS4.out.2 i hi hs)
            · rcases List.mem_append.1 hx with h1 | h1
              · have := hSm.out x h1
                have := R3.out.st.le
                omega
              · rw [List.mem_singleton] at h1
                rw [h1]; exact hg
            · have hS0 : 0 < S.length := by have := HSL.out; omega
              rw [List.getD_eq_getElem?_getD, List.getElem?_append_left hS0, ← List.getD_eq_getElem?_getD, R3.out.st.ev hop.out.st.here.wf (hSm.out _ (getD_mem hS0))]
              exact hev0.out v
            · have hSk := HSL.out
              rcases Nat.lt_or_ge i k with h1 | h1
              · have hSi : i + 1 < S.length := by omega
                rw [List.getD_eq_getElem?_getD, List.getElem?_append_left hSi, ← List.getD_eq_getElem?_getD, R3.out.st.ev hop.out.st.here.wf (hSm.out _ (getD_mem hSi))]
                exact hevs.out v i h1
              · obtain rfl : i = k := by omega
                rw [List.getD_eq_getElem?_getD, List.getElem?_append_right (by omega), show i + 1 - S.length = 0 by omega]
                simp only [List.getElem?_cons_zero, Option.getD_some]
                rw [R4.out v, HFE.out]
          case measure => simp [intOf]; omega
        · obtain rfl : k = l.length := by omega
          obtain ⟨A1, cap1, rfl, hcap1, hcap2⟩ := hS.out.shape
          obtain ⟨wo, hwo⟩ : ∃ wo : World, wo = wr := ⟨_, rfl⟩
          subst hwo
          have hN1 : F1.N = m.opts.length := hop.out.st.N.trans R1.out.N
          obtain ⟨s0, sr, hSe⟩ : ∃ s0 sr, S = s0 :: sr := by
            match S, hSl with
            | [], hSl => simp at hSl
            | s0 :: sr, _ => exact ⟨s0, sr, rfl⟩
          have hval : ∀ x, valI F1.ks (vf x) S ws = valF m l ws x := fun x => by
            have q0 := hev0.out (vf x)
            have q1 := hevs.out (vf x)
            subst hSe
            simp only [List.getD_cons_zero, List.getD_cons_succ] at q0 q1
            have q2 : sr.length = l.length := by simpa using hSl
            exact valI_valF q0 q2 (fun i hi => q1 i (by omega))
          have hbest : bestK F1.ks F1.N S ws [] = bestF m l ws := by
            unfold bestK bestF
            rw [hN1]
            congr 1
            exact List.map_congr_left fun x _ => hval x
          have hbig := bestF_big (m := m) HW.out (show l.length ≤ 1000 by omega) HSAT.out
          have hbd := bestK_bd (ks := F1.ks) (N := F1.N) (nodes := S) HW.out (show S.length ≤ 1000 by omega) []
          obtain ⟨M, hM⟩ : ∃ M, bestF m l ws = M := ⟨_, rfl⟩
          rw [hM] at hbest hbig
          rw [hbest] at hbd
          have HVAL := hide hval
          have HBEST := hide hbest
          have HBIG := hide hbig
          have HM := hide hM
          have HN1 := hide hN1
          have HSL : Hid (S.length = l.length + 1) := hSl
          have hnods : Nods wo wo.heap.size (.slice A1 S.length cap1) S := Nods.of_own hS.out.1
          have HNODS := hide hnods
          have HBW := hide hbw
          have hslt : ∀ b, SF F1 b → b < wo.heap.size := fun b hb => hop.out.st.here.slt hb
          have HSLT := hide hslt
          have hS300 : S.length ≤ 300 := by omega
          obtain ⟨hbd1, hbd2⟩ := hbd
          unfold leastI at hbd1
          clear hk hval hbest hbig hM hN1 hSl hnods hbw hslt hSe
          go_wp2_with fail
          generalize hw4 : World.alloc _ _ = w4
          obtain ⟨hb0, hb1, hB4, hs4⟩ := alloc2 hw4
          clear hw4
          have hwg : WgAt w4 F1 (wo.heap.size + 1) (.slice Aw ws.length capw) ws wo.heap.size 0 (fun _ => none) :=
            ⟨by rw [hop.out.st.p]; exact hb1, hop.out.st.here.below hB4, Sl.more (Ints.below HWS.out (Below.to HBW.out hB4 (Nat.le_refl _))) (by have := HBW.out.size; omega), ⟨.map [], ⟨#[], 0, hb0, ⟨by simp, MapKept.stamped_empty 0, by simp⟩, Nat.le_refl _, rfl⟩, fun a l _ => ⟨fun _ => rfl, fun x h => (by cases h)⟩⟩, fun a x h => (by cases h), fun e => by have := HSLT.out _ e; omega⟩
          have hp13 : 2 ^ (F1.N + 1) ≤ 2 ^ 13 := Nat.pow_le_pow_right (by omega) (by rw [HN1.out]; omega)
          have hbt := best_any F1 (wo.heap.size + 1) _ ws wo.heap.size HW.out (by omega) F1.N S _ w4 (fun _ => none) 0 hwg (by have := HSL.out; have := HLW.out; omega) hSm.out (by omega) (HNODS.out.up hB4) (by omega)
          rw [HBEST.out] at hbt
          have HBT := hide hbt
          have HP13 := hide hp13
          have HB4 : Hid (Below w.heap.size w w4) := Below.to HBW.out hB4 (Nat.le_refl _)
          have HS4 : Hid (wo.heap.size + 2 = w4.heap.size) := hs4.symm
          have HN4 : Hid (Nods w4 w4.heap.size (.slice A1 S.length cap1) S) := HNODS.out.up hB4
          have HWG4 := hide hwg
          clear hb0 hb1 hB4 hs4 hwg hp13 hbt
          refine HBT.out.mono ?_
          rintro e w5 ⟨m5, cnt5, rfl, r5⟩
          have R5 := hide r5
          have d0 := r5.here.fo.cellN
          rw [hop.out.st.p] at d0
          have hB5 : Below w.heap.size w w5 := HB4.out.trans (r5.keep.below (by have := HB4.out.size; omega) (fun k hk => by have := HBW.out.size; omega))
          have HB5 := hide hB5
          have HN5 : Hid (Nods w5 w5.heap.size (.slice A1 S.length cap1) S) := Sl.more (Sl.keep HN4.out (r5.cells HWG4.out)) r5.keep.size
          have hN13 : F1.N ≤ 12 := by rw [HN1.out]; exact hN
          have hmk : ∀ W : World, (Instr.makeSlice 38 (.int .i64 F1.N) (.int .i64 F1.N)).run Try.prog W = .ok (.slice (some ⟨W.heap.size, 0, none⟩) F1.N F1.N) (W.alloc (.cells (madeCells #[.bool false] (F1.N * 1)) 4)) := fun W => by
            have h1 := run_make (P := Try.prog) W 38 4 i1 (.bool false) Try.underlying38 hi1 jz0 .i64 .i64 F1.N F1.N (by omega) (Int.le_refl _) (by rw [jz2]; omega) (by omega)
            rw [jz1] at h1
            simpa [Value.cells] using h1
          clear r5 hB5
          go_wp2_with fail
          generalize hw0 : World.alloc _ _ = w6
          obtain ⟨hb0, hB0, hs0⟩ := alloc1 hw0
          clear hw0
          have hva : VarAt w6 w5.heap.size F1.N [] := by
            unfold VarAt
            rw [hb0, made_bools]
            rfl
          have HVA := hide hva
          have HB6 : Hid (Below w.heap.size w w6) := Below.to HB5.out hB0 (Nat.le_refl _)
          have HWG6 := hide (R5.out.here.below hB0)
          have HN6 : Hid (Nods w6 w6.heap.size (.slice A1 S.length cap1) S) := HN5.out.up hB0
          have hsz5 : wo.heap.size + 2 ≤ w5.heap.size := by have := R5.out.keep.size; have := HS4.out; omega
          have hcnt5 := R5.out.cnt
          clear hb0 hB0 hs0 hva hmk d0
          go_loopw [14, 87] (fun nv i wq => ∃ (k : Nat) (ls : List Bool) (ns : List Nat) (cnt : Nat) (mm : SmL → Option Int), k ≤ F1.N ∧ ls.length = k ∧ i = .int .i64 k ∧ Hid (Pick F1.ks F1.N ws S M ls ns) ∧ Hid (WgAt wq F1 (wo.heap.size + 1) (.slice Aw ws.length capw) ws wo.heap.size cnt mm) ∧ cnt ≤ (k + 1) * 8192 ∧ Hid (Nods wq wq.heap.size nv ns) ∧ Hid (VarAt wq w5.heap.size F1.N ls) ∧ Hid (Below w.heap.size w wq)) (fun _ i _ => F1.N - (intOf i).toNat)
          case atStart => exact ⟨0, [], S, cnt5, m5, Nat.zero_le _, rfl, rfl, Pick.start hSm.out HBEST.out, HWG6.out, by have := HP13.out; omega, HN6.out, HVA.out, HB6.out⟩
          case round =>
            obtain ⟨k, ls, ns, cnt, mm, hk, hls, rfl, hP, hWG, hcnt, hNn, hV, hBq⟩ := hrel
            obtain ⟨A7, cap7, hA7⟩ := Sl.form hNn.out
            subst hA7
            have hPl := hP.out.len
            have hsz : wo.heap.size + 2 ≤ w5.heap.size := hsz5
            have hvl : w5.heap.size < wr.heap.size := box_lt hV.out
            by_cases hkl : k < F1.N
            · have hcq : cnt + 2 ^ (F1.N + 1) ≤ 1073741824 := by
                have h1 := HP13.out
                have h2 : (k + 1) * 8192 ≤ 13 * 8192 := Nat.mul_le_mul_right _ (by omega)
                omega
              have hlsN : ls.length < F1.N := by omega
              have hahead := hP.out.ahead hop.out.st.here.wf hlsN false
              rw [hls] at hahead
              obtain ⟨a, ha⟩ : ∃ a, bestK F1.ks F1.N S ws (ls ++ [false]) = a := ⟨_, rfl⟩
              obtain ⟨b, hb⟩ : ∃ b, decide (a < M) = b := ⟨_, rfl⟩
              rw [ha] at hahead
              have hnx := hP.out.next hop.out.st.here.wf hlsN HBIG.out (b := b) (by rw [ha, hb])
              rw [hls] at hnx
              have hsta := step_any F1 (wo.heap.size + 1) _ ws wo.heap.size cnt mm ns k false _ wr hWG.out (by omega) hP.out.lt hNn.out
              have HSTA := hide hsta
              have HAH := hide hahead
              have HNX := hide hnx
              have HCQ := hide hcq
              have HLS : Hid (ls.length = k) := hls
              have HPL : Hid (ns.length = S.length) := hPl
              have HCNT := hide hcnt
              have v0 : wr.cell? ⟨w5.heap.size, k, none⟩ = some (.bool false) := by rw [← hls]; exact hV.out.cell hlsN
              have j1 : (k : Int) < (F1.N : Int) := by omega
              clear hcq hlsN hahead ha hnx hsta hls hPl hcnt
              go_wp2_with fail
              refine HSTA.out.mono ?_
              rintro e w7 ⟨v7, rfl, hn7, hB7⟩
              obtain ⟨A8, cap8, rfl⟩ := Sl.form hn7
              rw [List.length_map] at hn7 ⊢
              have hwg7 := hWG.out.below hB7
              have hV7 := hV.out.below hB7
              have hbt := best_any F1 (wo.heap.size + 1) _ ws wo.heap.size HW.out (by omega) F1.N (ns.map fun n => brK F1.ks n k false) _ w7 mm cnt hwg7 (by rw [List.length_map]; have := HPL.out; have := HSL.out; have := HLW.out; omega) (fun n hn => by
                rw [List.mem_map] at hn
                obtain ⟨x, hx, rfl⟩ := hn
                exact brK_lt hop.out.st.here.wf (hP.out.lt x hx) hkl) (by omega) hn7 HCQ.out
              rw [HAH.out] at hbt
              have HBT7 := hide hbt
              have HB7 := hide hB7
              have HV7 := hide hV7
              have HWG7 := hide hwg7
              have HN7 : Hid (Nods w7 w7.heap.size (.slice A7 ns.length cap7) ns) := hNn.out.up hB7
              have HBq7 : Hid (Below w.heap.size w w7) := Below.to hBq.out hB7 (Nat.le_refl _)
              clear hn7 hwg7 hV7 hbt hB7
              go_wp2_with fail
              refine HBT7.out.mono ?_
              rintro e w8 ⟨m8, cnt8, rfl, r8⟩
              have hV8 : VarAt w8 w5.heap.size F1.N ls := (r8.keep.block _ (box_lt HV7.out) (by omega)).trans HV7.out
              have HV8 := hide hV8
              have R8 := hide r8
              have HN8 : Hid (Nods w8 w8.heap.size (.slice A7 ns.length cap7) ns) := Sl.more (Sl.keep HN7.out (r8.cells HWG7.out)) r8.keep.size
              have HB8 : Hid (Below w.heap.size w w8) := HBq7.out.trans (r8.keep.below (by have := HBq7.out.size; omega) (fun k hk => by have := HBW.out.size; omega))
              have x0 : w8.cell? ⟨w5.heap.size, k, none⟩ = some (.bool false) := by rw [← HLS.out]; exact hV8.cell (by rw [HLS.out]; exact hkl)
              have x1 : w8.frozen? ⟨w5.heap.size, k, none⟩ = false := unfrozenOf hV8 _
              clear r8 hV8 v0
              go_wp2_with fail
              generalize hw9 : World.setCell _ _ _ = w9
              have hV9 : VarAt w9 w5.heap.size F1.N (ls ++ [b]) := by
                rw [← hw9]
                have h1 := HV8.out.set (by rw [HLS.out]; exact hkl) b
                rw [HLS.out] at h1
                exact h1
              have hs9 : w9.heap.size = w8.heap.size := by rw [← hw9]; simp [World.setCell]
              have hB9 : Below w.heap.size w w9 := by
                rw [← hw9]
                exact HB8.out.setCell (show w.heap.size ≤ w5.heap.size from HB5.out.size) _
              have hN9 : Nods w9 w9.heap.size (.slice A7 ns.length cap7) ns := by
                rw [hs9, ← hw9]
                exact HN8.out.setBool HV8.out
              have hWG9 : WgAt w9 F1 (wo.heap.size + 1) (.slice Aw ws.length capw) ws wo.heap.size cnt8 m8 := by
                have hi9 : Ints w9 w9.heap.size (.slice Aw ws.length capw) ws := Sl.more (Ints.below HWS.out hB9) hB9.size
                rw [← hw9] at hi9 ⊢
                exact R8.out.here.setOther (show w5.heap.size ≠ wo.heap.size + 1 by omega) (show w5.heap.size ≠ wo.heap.size by omega) (fun e => by have := HSLT.out _ e; simp at this; omega) hi9
              have HV9 := hide hV9
              have HB9 := hide hB9
              clear hw9 hs9 hV9 hB9 x0 x1
              refine (step_any F1 (wo.heap.size + 1) _ ws wo.heap.size cnt8 m8 ns k b _ w9 hWG9 (by have := HPL.out; omega) hP.out.lt hN9).mono ?_
              rintro e w10 ⟨v10, rfl, hn10, hB10⟩
              obtain ⟨A10, cap10, hA10⟩ := Sl.form hn10
              subst hA10
              rw [List.length_map] at hn10 ⊢
              have HN10 := hide hn10
              have HWG10 := hide (hWG9.below hB10)
              have HV10 := hide (HV9.out.below hB10)
              have HB10 : Hid (Below w.heap.size w w10) := Below.to HB9.out hB10 (Nat.le_refl _)
              clear hn10 hB10 hWG9 hN9
              go_wp2_with fail
              go_roundw
              case rel =>
                exact ⟨k + 1, ls ++ [b], _, cnt8, m8, by omega, by simp [HLS.out], by go_num, HNX.out, HWG10.out, by have h1 := R8.out.cnt; have h2 := HP13.out; have h3 := HCNT.out; omega, HN10.out, HV10.out, HB10.out⟩
              case measure => simp [intOf]; omega
            · obtain rfl : k = F1.N := by omega
              have hfin := hP.out.finish hls HBIG.out
              have hb := VarAt.bols (l := ls) (by rw [hls]; exact hV.out)
              rw [hls] at hb
              have HFIN := hide hfin
              have HBO := hide hb
              have HLS : Hid (ls.length = F1.N) := hls
              clear hfin hb hls hkl hk
              go_wp2_with fail
              go_ret3
              refine ⟨_, ls, ?_, ?_, ?_, HBO.out, hBq.out⟩
              · rw [HM.out]; rfl
              · have h1 := HFIN.out
                rw [HN1.out] at h1
                rw [HM.out, ← h1]
                congr 1
                funext x
                rw [HVAL.out x]
              · rw [HLS.out, HN1.out]
end Go.Proofs.Ytmabfnddedffoaa
/- Diagrams handed in, and where a variant comes to in one. Plain laws; the arguments opened: no condition. -/
namespace Go.Proofs.Ytmabfnddedffoaa
open Go.Joins Go.ChangeShapes Go.WideShapes Go.ChangeAt Go.RowKit Go.Deep
set_option maxRecDepth 100000
set_option linter.unusedVariables false
set_option linter.unusedSimpArgs false
structure Kt where
  o : Int
  l : Int
  h : Int
def Kt.z : Kt := ⟨0, 0, 0⟩
def ktF (k : Kt) (j : Nat) : Value := match j with
  | 0 => .int .i64 k.o
  | 1 => .int .i64 k.l
  | _ => .int .i64 k.h
def Kts (w : World) (B : Nat) (v : Value) (ks : List Kt) : Prop := Sl w B 3 v ks.length (fun i j => ktF (ks.getD i Kt.z) j)
/-- Whether one may go on to a place. -/
def goB (ks : List Kt) (before : Nat) (o q : Int) : Bool := q == -1 || q == -2 || (decide (0 ≤ q) && decide (q < before) && decide (o < (ks.getD q.toNat Kt.z).o))
def okB (n : Nat) (ks : List Kt) (i : Nat) : Bool := decide (0 ≤ (ks.getD i Kt.z).o) && decide ((ks.getD i Kt.z).o < n) && goB ks i (ks.getD i Kt.z).o (ks.getD i Kt.z).l && goB ks i (ks.getD i Kt.z).o (ks.getD i Kt.z).h
/-- Where one goes on from a knot. -/
def nxt (ks : List Kt) (v : List Bool) (r : Int) : Int := if v.getD (ks.getD r.toNat Kt.z).o.toNat false then (ks.getD r.toNat Kt.z).h else (ks.getD r.toNat Kt.z).l
def flw (ks : List Kt) (v : List Bool) : Nat → Int → Int
  | 0, r => r
  | n + 1, r => if r < 0 then r else flw ks v n (nxt ks v r)
def allB (n : Nat) (ks : List Kt) : Bool := (List.range ks.length).all (okB n ks)
/-- What Follow returns. -/
def folE (m : Mo) (ks : List Kt) (r : Int) (v : List Bool) : Int := if m.err ≠ 0 then m.err else if 2000 < ks.length ∨ allB m.opts.length ks = false ∨ r < -2 ∨ (ks.length : Int) ≤ r ∨ v.length ≠ m.opts.length then 1 else 0
def folB (m : Mo) (ks : List Kt) (r : Int) (v : List Bool) : Bool := if folE m ks r v = 0 then flw ks v ks.length r == -2 else false
section
variable {H : Type} {enc : TypeId × Value → H} {W : World} {base b0 : Nat} {r : Reach} {spare : Nat → Bool} {held : Bool} {v : Value} {d : DataW H} {p : List MemPlace}
end
end Go.Proofs.Ytmabfnddedffoaa
/- The value of a formula as the elder program has it: walk. -/
namespace Go.Proofs.Ytmabfnddedffoaa
open Go.RowKit
set_option linter.unusedVariables false
set_option linter.unusedSimpArgs false
/-- What eval tells of the term at place p. -/
def EvR (N : Nat) (v : Nat → Bool) (f : List Int) (p c : Nat) (x : Bool) (q : Nat) : Prop :=
  p < q ∧ q ≤ f.length ∧ vld N c (f.drop q) = true ∧ evS v (f.drop p) = x :: evS v (f.drop q)
theorem vld_ne {N c p : Nat} {f : List Int} (h : vld N (c + 1) (f.drop p) = true) : p < f.length := by
  rcases Nat.lt_or_ge p f.length with h1 | h1
  · exact h1
  · rw [List.drop_eq_nil_of_le h1] at h
    simp [vld] at h
theorem EvR.leaf {N c p : Nat} {v : Nat → Bool} {f : List Int} {o : Int} {x : Bool} (hd : f.drop p = o :: f.drop (p + 1)) (h : vld N (c + 1) (f.drop p) = true) (ha : arO o = 0) (hs : ∀ S, stp v o S = x :: S) : EvR N v f p c x (p + 1) := by
  have hp := vld_ne h
  rw [hd] at h
  simp only [vld, Bool.and_eq_true, ha, Nat.add_zero] at h
  refine ⟨by omega, by omega, h.2, ?_⟩
  rw [hd, evS_cons, hs]
theorem EvR.one {N c p q : Nat} {v : Nat → Bool} {f : List Int} {x : Bool} (hd : f.drop p = -3 :: f.drop (p + 1)) (h : EvR N v f (p + 1) c x q) : EvR N v f p c (!x) q := by
  obtain ⟨h1, h2, h3, h4⟩ := h
  refine ⟨by omega, h2, h3, ?_⟩
  rw [hd, evS_cons, h4]
  rfl
theorem EvR.two {N c p q r : Nat} {v : Nat → Bool} {f : List Int} {x y z : Bool} {o : Int} (hd : f.drop p = o :: f.drop (p + 1)) (h : EvR N v f (p + 1) (c + 1) x q) (k : EvR N v f q c y r) (hs : ∀ S, stp v o (x :: y :: S) = z :: S) : EvR N v f p c z r := by
  obtain ⟨h1, h2, h3, h4⟩ := h
  obtain ⟨k1, k2, k3, k4⟩ := k
  refine ⟨by omega, k2, k3, ?_⟩
  rw [hd, evS_cons, h4, k4, hs]
theorem vld_next {N c p : Nat} {f : List Int} {o : Int} (hd : f.drop p = o :: f.drop (p + 1)) (h : vld N (c + 1) (f.drop p) = true) : vld N (c + arO o) (f.drop (p + 1)) = true ∧ -6 ≤ o ∧ o < N := by
  rw [hd] at h
  simp only [vld, Bool.and_eq_true, decide_eq_true_eq] at h
  exact ⟨h.2, h.1.1, h.1.2⟩
def EvP (N : Nat) (v : Nat → Bool) (f : List Int) (p c : Nat) (w : World) (e : Ending) (W : World) : Prop := ∃ (x : Bool) (q : Nat), e = .returned (.tuple #[.bool x, .int .i64 (q : Nat)]) ∧ EvR N v f p c x q ∧ w = W
set_option maxRecDepth 100000 in
set_option maxHeartbeats 4000000 in
theorem eval_any (f : List Int) (N : Nat) (vs : List Bool) (fv vv : Value) (B : Nat) (w : World) (hm : f.length ≤ 1000) (hf : Ints w B fv f) (hv : Bols w B vv vs) (hN : vs.length = N) :
    ∀ (n p c : Nat), f.length - p ≤ n → vld N (c + 1) (f.drop p) = true → Calls Try.prog 154 #[fv, .int .i64 p, vv] w (EvP N (vf vs) f p c w) := by
  obtain ⟨A, b, off, cap, rfl, hnc, hA, hc⟩ := hf
  obtain ⟨Av, bv, offv, capv, rfl, hncv, hAv, hcv⟩ := hv
  have HC := hide hc
  have HA := hide hA
  have HCV := hide hcv
  have HAV := hide hAv
  have HN := hide hN
  clear hc hA hcv hAv hN
  intro n
  induction n with
  | zero =>
    intro p c h1 h2
    have := vld_ne h2
    omega
  | succ n ih =>
    intro p c hn hvl
    have hp := vld_ne hvl
    obtain ⟨rfl, hb⟩ : A = some ⟨b, off, none⟩ ∧ b < B := by
      rcases HA.out with h | h
      · exact h
      · omega
    obtain ⟨o, ho⟩ : ∃ o, f.getD p 0 = o := ⟨_, rfl⟩
    have c0 : w.cell? ⟨b, off + p, none⟩ = some (.int .i64 o) := by
      have h1 := HC.out p 0 hp (by omega)
      rw [Nat.mul_one, Nat.add_zero] at h1
      rw [← ho]; exact h1
    have hd : f.drop p = o :: f.drop (p + 1) := by rw [drop_getD hp, ho]
    obtain ⟨hnx, hlo, hhi⟩ := vld_next hd hvl
    have i0 : (0 : Int) ≤ (p : Int) := by omega
    have i1 : (p : Int) < (f.length : Int) := by omega
    have HD := hide hd
    have HVL := hide hvl
    have HNX := hide hnx
    have IH := hide ih
    clear hd hvl hnx ih ho
    by_cases h0 : 0 ≤ o
    · obtain ⟨t, rfl⟩ := Int.eq_ofNat_of_zero_le h0
      have ht : t < vs.length := by have := HN.out; omega
      obtain ⟨rfl, hbv⟩ : Av = some ⟨bv, offv, none⟩ ∧ bv < B := by
        rcases HAV.out with h | h
        · exact h
        · omega
      obtain ⟨x, hx⟩ : ∃ x, vs.getD t false = x := ⟨_, rfl⟩
      have c1 : w.cell? ⟨bv, offv + t, none⟩ = some (.bool x) := by
        have h1 := HCV.out t 0 ht (by omega)
        rw [Nat.mul_one, Nat.add_zero] at h1
        rw [← hx]; exact h1
      have d0 : decide ((0 : Int) ≤ (t : Int)) = true := by simp
      have j1 : (t : Int) < (vs.length : Int) := by omega
      have HR : Hid (EvR N (vf vs) f p c x (p + 1)) := EvR.leaf HD.out HVL.out (by unfold arO; (repeat' split) <;> omega) (fun S => by
        unfold stp
        rw [if_neg (by omega), if_neg (by omega), if_neg (by omega), if_neg (by omega), if_neg (by omega), if_neg (by omega), Int.toNat_natCast, ← hx]; rfl)
      clear hx
      go_enter Try.func154, Try.ntmps154
      go_wp2_with fail
      go_ret2
      exact ⟨x, p + 1, rfl, HR.out, rfl⟩
    have d0 : decide (0 ≤ o) = false := by simp; omega
    by_cases h1 : o = -1
    · subst h1
      have HR : Hid (EvR N (vf vs) f p c true (p + 1)) := EvR.leaf HD.out HVL.out rfl (fun S => rfl)
      go_enter Try.func154, Try.ntmps154
      go_wp2_with fail
      go_ret2
      exact ⟨true, p + 1, rfl, HR.out, rfl⟩
    by_cases h2 : o = -2
    · subst h2
      have HR : Hid (EvR N (vf vs) f p c false (p + 1)) := EvR.leaf HD.out HVL.out rfl (fun S => rfl)
      go_enter Try.func154, Try.ntmps154
      go_wp2_with fail
      go_ret2
      exact ⟨false, p + 1, rfl, HR.out, rfl⟩
    by_cases h3 : o = -3
    · subst h3
      have hih := IH.out (p + 1) c (by omega) HNX.out
      have HIH := hide hih
      clear hih
      go_enter Try.func154, Try.ntmps154
      go_wp2_with (go_at_call 154; refine HIH.out.mono ?_; rintro e w1 ⟨x, q, rfl, hr, rfl⟩; have HR := hide hr; clear hr)
      go_ret2
      exact ⟨!x, q, rfl, EvR.one HD.out HR.out, rfl⟩
    have ha : arO o = 2 := by unfold arO; (repeat' split) <;> omega
    have hih := IH.out (p + 1) (c + 1) (by omega) (by have := HNX.out; rw [ha] at this; exact this)
    have HIH := hide hih
    have e1 : (o == -1) = false := by simpa using h1
    have e2 : (o == -2) = false := by simpa using h2
    have e3 : (o == -3) = false := by simpa using h3
    clear hih ha
    go_enter Try.func154, Try.ntmps154
    go_upto_region 9 with (go_at_call 154; refine HIH.out.mono ?_; rintro e w1 ⟨x, q, rfl, hr, rfl⟩; have HR := hide hr; clear hr)
    have hih := IH.out q c (by have := HR.out.1; omega) HR.out.2.2.1
    have HIH2 := hide hih
    clear hih
    go_upto_region 10 with (go_at_call 154; refine HIH2.out.mono ?_; rintro e w1 ⟨y, r, rfl, hr2, rfl⟩; have HR2 := hide hr2; clear hr2)
    rcases (by omega : o = -4 ∨ o = -5 ∨ o = -6) with rfl | rfl | rfl
    · have HT : Hid (EvR N (vf vs) f p c (x && y) r) := EvR.two HD.out HR.out HR2.out (fun S => rfl)
      cases x
      · go_wp2_with fail
        go_ret2
        exact ⟨_, r, rfl, HT.out, rfl⟩
      · go_wp2_with fail
        go_ret2
        exact ⟨_, r, rfl, HT.out, rfl⟩
    · have HT : Hid (EvR N (vf vs) f p c (x || y) r) := EvR.two HD.out HR.out HR2.out (fun S => rfl)
      cases x
      · go_wp2_with fail
        go_ret2
        exact ⟨_, r, rfl, HT.out, rfl⟩
      · go_wp2_with fail
        go_ret2
        exact ⟨_, r, rfl, HT.out, rfl⟩
    · have HT : Hid (EvR N (vf vs) f p c (x == y) r) := EvR.two HD.out HR.out HR2.out (fun S => rfl)
      go_wp2_with fail
      go_ret2
      exact ⟨_, r, rfl, HT.out, rfl⟩
theorem evF1_of {N q c : Nat} {v : Nat → Bool} {f : List Int} {x : Bool} (h : EvR N v f 0 c x q) : x = evF1 v f := by
  have h4 := h.2.2.2
  rw [List.drop_zero] at h4
  unfold evF1
  rw [h4]; rfl
end Go.Proofs.Ytmabfnddedffoaa
/- A formula's value as the elder program has it: walk. -/
namespace Go.Proofs.Ytmabfnddedffoaa
open Go.RowKit
set_option linter.unusedVariables false
set_option linter.unusedSimpArgs false
set_option maxRecDepth 100000 in
set_option maxHeartbeats 2000000 in
theorem True_any (f : List Int) (N : Nat) (vs : List Bool) (fv vv : Value) (B : Nat) (w : World) (hf : Ints w B fv f) (hv : Bols w B vv vs) (hN : vs.length = N) (hok : validF N f = true) :
    Calls Try.prog 127 #[fv, vv] w fun e W => e = .returned (.bool (evF1 (vf vs) f)) ∧ w = W := by
  unfold validF at hok
  simp only [Bool.and_eq_true, decide_eq_true_eq] at hok
  obtain ⟨A, cap, hfv⟩ := Sl.form hf
  obtain ⟨Av, capv, hvv⟩ := Sl.form hv
  have he := eval_any f N vs fv vv B w (by omega) hf hv hN f.length 0 0 (by omega) (by rw [List.drop_zero]; exact hok.1)
  have he2 : Calls Try.prog 154 #[fv, .int .i64 0, vv] w fun e W => ∃ (x : Option Bool) (q : Nat), e = .returned (.tuple #[.bool (evF1 (vf vs) f), .int .i64 (q : Nat)]) ∧ w = W :=
    he.mono fun e W hh => by
      obtain ⟨x, q, h1, h2, h3⟩ := hh
      exact ⟨none, q, by rw [h1, evF1_of h2], h3⟩
  have HE := hide he2
  subst hfv hvv
  clear he he2 hf hv hok hN
  go_enter Try.func127, Try.ntmps127
  go_wp2_with (go_at_call 154; refine HE.out.mono ?_; rintro e w1 ⟨_, q, rfl, rfl⟩)
  go_ret
  exact ⟨rfl, rfl⟩
end Go.Proofs.Ytmabfnddedffoaa
/- Holds and Buildable as the elder program has them: walks. -/
namespace Go.Proofs.Ytmabfnddedffoaa
open Go.RowKit
set_option linter.unusedVariables false
set_option linter.unusedSimpArgs false
/-- What Holds returns. -/
def holE (m : Mo) (f : List Int) (vs : List Bool) : Int := if m.errF [f] ≠ 0 then m.errF [f] else if vs.length ≠ m.opts.length then 1 else 0
def holB (m : Mo) (f : List Int) (vs : List Bool) : Bool := if holE m f vs = 0 then evF1 (vf vs) f else false
/-- The first rule that does not hold. -/
def fstR (vs : List Bool) (rules : List (List Int)) : Int := idxI (fun f => !evF1 (vf vs) f) rules
set_option maxRecDepth 100000 in
set_option maxHeartbeats 4000000 in
theorem rfirst_any (m : Mo) (vs : List Bool) (ov rv vv : Value) (w : World) (h : MoAt w w.heap.size ov rv m) (hv : Bols w w.heap.size vv vs) (he : m.err = 0) (hn : vs.length = m.opts.length) :
    Calls Try.prog 125 #[.agg #[ov, rv], vv] w fun e w' => e = .returned (.int .i64 (fstR vs m.rules)) ∧ Below w.heap.size w w' := by
  obtain ⟨A, cap, hov⟩ := Sl.form h.o
  obtain ⟨Av, capv, hvv⟩ := Sl.form hv
  have hok := (Mo.ok he).2.2.2
  have h60 := (Mo.ok he).2.1
  obtain ⟨fvs, ⟨Al, bl, offl, capl, rfl, hncl, hAl, hcl⟩, hfi⟩ := h.r
  have HAL := hide hAl
  have HCL := hide hcl
  have HFI := hide hfi
  have HV := hide hv
  have HOK := hide hok
  have HN := hide hn
  subst hov hvv
  clear h hv he hn hok hAl hcl hfi
  go_enter Try.func125, Try.ntmps125
  go_upto_region 1 with (fail)
  generalize hw0 : World.alloc _ _ = w0
  obtain ⟨hb0, hB0, hs0⟩ := alloc1 hw0
  clear hw0
  have HX0 : Hid (MoBox w0 w.heap.size (.slice A m.opts.length cap) (.slice Al m.rules.length capl)) := hb0
  have HB0 := hide hB0
  have c0 := cellOf hb0 0
  have c1 := cellOf hb0 1
  have hlt0 := box_lt hb0
  clear hb0 hB0 hs0
  go_wp2_with fail
  go_loop [5] (fun i => ∃ t : Nat, t ≤ m.rules.length ∧ i = .int .i64 t ∧ Hid (∀ j, j < t → (fun f => !evF1 (vf vs) f) (m.rules.getD j []) = false)) (fun i => m.rules.length - (intOf i).toNat)
  case atStart => exact ⟨0, Nat.zero_le _, rfl, fun j hj => by omega⟩
  case round =>
    obtain ⟨t, ht, rfl, hall⟩ := hrel
    by_cases htl : t < m.rules.length
    · obtain ⟨rfl, hbb⟩ : Al = some ⟨bl, offl, none⟩ ∧ bl < w.heap.size := by
        rcases HAL.out with h | h
        · exact h
        · omega
      obtain ⟨f, hfe⟩ : ∃ f, m.rules.getD t [] = f := ⟨_, rfl⟩
      have hfm : f ∈ m.rules := by rw [← hfe]; exact getD_mem htl
      have hin : Ints w w.heap.size (fvs t) f := by have := HFI.out t htl; rwa [hfe] at this
      obtain ⟨Af, capf, hff⟩ := Sl.form hin
      have q0 : w0.cell? ⟨bl, offl + t, none⟩ = some (.slice Af f.length capf) := by
        have h1 := HCL.out t 0 htl (by omega)
        rw [Nat.mul_one, Nat.add_zero, hff] at h1
        exact (HB0.out.cell (p := ⟨bl, offl + t, none⟩) hbb).trans h1
      have lb : bl < w0.heap.size := Nat.lt_of_lt_of_le hbb HB0.out.size
      rw [hff] at hin
      have htr := True_any f m.opts.length vs (.slice Af f.length capf) (.slice Av vs.length capv) w.heap.size w0 (hin.below HB0.out) (Sl.below HV.out HB0.out) HN.out (HOK.out f hfm)
      have it0 : (0 : Int) ≤ (t : Int) := by omega
      have it2 : (t : Int) < (m.rules.length : Int) := by omega
      have HFE := hide hfe
      cases hx : evF1 (vf vs) f with
      | true =>
        rw [hx] at htr
        have HTR := hide htr
        have HX := hide hx
        clear hfm hin hff htr hx hfe
        go_wp2_with (go_at_call 127; refine HTR.out.mono ?_; rintro e w2 ⟨rfl, rfl⟩)
        go_round
        case rel => exact ⟨t + 1, by omega, by go_num, fun j hj => by
            rcases Nat.lt_or_ge j t with h | h
            · exact hall.out j h
            · rw [show j = t from by omega, HFE.out]; simp only [HX.out]; rfl⟩
        case measure => simp [intOf]; omega
      | false =>
        rw [hx] at htr
        have HTR := hide htr
        have hid : fstR vs m.rules = t := idxI_at _ [] m.rules t hall.out htl (by rw [hfe]; simp only [hx]; rfl)
        have HID := hide hid
        clear hfm hin hff htr hx hfe hid
        go_wp2_with (go_at_call 127; refine HTR.out.mono ?_; rintro e w2 ⟨rfl, rfl⟩)
        go_ret
        exact ⟨ret_int HID.out.symm, HB0.out⟩
    · have hid : fstR vs m.rules = -1 := idxI_none _ [] m.rules (fun j hj => hall.out j (by omega))
      have HID := hide hid
      clear hid
      go_wp2_with fail
      go_ret
      exact ⟨ret_int HID.out.symm, HB0.out⟩
end Go.Proofs.Ytmabfnddedffoaa
/- Buildable as the elder program has it: walk. -/
namespace Go.Proofs.Ytmabfnddedffoaa
open Go.RowKit
set_option linter.unusedVariables false
set_option linter.unusedSimpArgs false
/-- What Buildable returns. -/
def buiE (m : Mo) (vs : List Bool) : Int := if m.err ≠ 0 then m.err else if vs.length ≠ m.opts.length then 1 else 0
def buiR (m : Mo) (vs : List Bool) : Int := if buiE m vs = 0 then fstR vs m.rules else 0
def buiB (m : Mo) (vs : List Bool) : Bool := if buiE m vs = 0 then decide (fstR vs m.rules < 0) else false
end Go.Proofs.Ytmabfnddedffoaa
/- A stack of Bools. -/
namespace Go.Proofs.Ytmabfnddedffoaa
open Go.RowKit
set_option linter.unusedVariables false
set_option linter.unusedSimpArgs false
/-- The slice is a stack of its own above block B. -/
def BStk (B : Nat) (w : World) (sv : Value) (S : List Bool) : Prop := w.ownsRow B 4 1 sv S.length (S.map Value.bool)
theorem BStk.below {B : Nat} {w w' : World} {sv : Value} {S : List Bool} (h : BStk B w sv S) (hb : Below w.heap.size w w') : BStk B w' sv S := owns_below h hb
theorem BStk.shape {B : Nat} {w : World} {sv : Value} {S : List Bool} (h : BStk B w sv S) : ∃ A cap, sv = .slice A S.length cap ∧ S.length ≤ cap ∧ cap ≤ maxLen := by
  rcases h.2 with ⟨h1, h2⟩ | ⟨g, cap, cur, h1, _, _, h2, h3, _⟩
  · exact ⟨none, 0, by rw [h1, h2], by omega, by unfold maxLen; omega⟩
  · exact ⟨_, cap, h1, h2, h3⟩
theorem BStk.cells {B : Nat} {w : World} {A : Option Addr} {n cap : Nat} {S : List Bool} (h : BStk B w (.slice A n cap) S) (hn : 0 < S.length) : ∃ g, A = some ⟨g, 0, none⟩ ∧ g < w.heap.size ∧ ∀ i, i < S.length → w.cell? ⟨g, i, none⟩ = some (.bool (S.getD i false)) := by
  obtain ⟨g, cap', hv, _, hl⟩ := World.ownsRow.form h hn
  injection hv with h1 h2 h3
  subst h1
  refine ⟨g, rfl, hl, fun i hi => ?_⟩
  have := World.ownsRow.cells (g := g) h rfl i (.bool (S.getD i false)) (by simp [hi])
  have he : (⟨g, 0, none⟩ : Addr).add i = ⟨g, i, none⟩ := by
    unfold Addr.add
    split
    · rename_i h0; rw [h0]
    · rw [Nat.zero_add]
  rwa [he] at this
theorem BStk.cut {B : Nat} {w : World} {A : Option Addr} {n cap : Nat} {S : List Bool} (h : BStk B w (.slice A n cap) S) {r : Nat} (hr : r ≤ S.length) : w.ownsRow B 4 1 (.slice A r cap) r ((S.take r).map Value.bool) := by
  obtain ⟨h1, ⟨h2, h3⟩ | ⟨g, cap', cur, h2, h3, h4, h5, h6, h7, h8⟩⟩ := h
  · injection h2 with e1 e2 e3
    subst e1 e3
    obtain rfl : r = 0 := by omega
    exact ⟨by simp, .inl ⟨rfl, rfl⟩⟩
  · injection h2 with e1 e2 e3
    subst e1 e3
    refine ⟨by simp; omega, .inr ⟨g, cap, cur, rfl, h3, h4, by omega, h6, h7, ?_⟩⟩
    rw [List.map_take, ← h8, List.take_take, Nat.mul_one, Nat.mul_one, Nat.min_eq_left hr]
end Go.Proofs.Ytmabfnddedffoaa
/- Whether a formula holds: walk. -/
namespace Go.Proofs.Ytmabfnddedffoaa
open Go.RowKit
set_option linter.unusedVariables false
set_option linter.unusedSimpArgs false
def BopP (v : Nat → Bool) (o : Int) (S : List Bool) (w : World) (x : Value) (wx : World) : Prop := ∃ y : Bool, x = .bool y ∧ Below w.heap.size w wx ∧ stp v o S.reverse = y :: S.reverse.drop (arO o)
end Go.Proofs.Ytmabfnddedffoaa
/- Holds: walk. -/
namespace Go.Proofs.Ytmabfnddedffoaa
open Go.RowKit
set_option linter.unusedVariables false
set_option linter.unusedSimpArgs false
end Go.Proofs.Ytmabfnddedffoaa
/- Buildable: walk. -/
namespace Go.Proofs.Ytmabfnddedffoaa
open Go.RowKit
set_option linter.unusedVariables false
set_option linter.unusedSimpArgs false
end Go.Proofs.Ytmabfnddedffoaa
/- The variants of a model in order, by number. Plain laws. -/
namespace Go.Proofs.Ytmabfnddedffoaa
set_option linter.unusedVariables false
/-- The variant with a number. -/
def bitsN : Nat → Nat → List Bool
  | 0, _ => []
  | k + 1, n => decide (n / 2 ^ k % 2 = 1) :: bitsN k n
theorem bitsN_len : ∀ k n, (bitsN k n).length = k
  | 0, _ => rfl
  | k + 1, n => by simp [bitsN, bitsN_len k n]
theorem bitsN_get : ∀ (k n i : Nat), i < k → (bitsN k n).getD i false = decide (n / 2 ^ (k - 1 - i) % 2 = 1)
  | k + 1, n, 0, _ => by simp [bitsN]
  | k + 1, n, i + 1, h => by
    have := bitsN_get k n i (by omega)
    rw [show k + 1 - 1 - (i + 1) = k - 1 - i by omega, ← this]
    simp [bitsN]
theorem bitsN_add : ∀ (k K n : Nat), k ≤ K → bitsN k (2 ^ K + n) = bitsN k n
  | 0, K, n, _ => rfl
  | k + 1, K, n, h => by
    have ih := bitsN_add k K n (by omega)
    have e : (2 ^ K + n) / 2 ^ k % 2 = n / 2 ^ k % 2 := by
      obtain ⟨d, rfl⟩ : ∃ d, K = k + (d + 1) := ⟨K - k - 1, by omega⟩
      rw [Nat.pow_add, Nat.pow_succ, show 2 ^ k * (2 ^ d * 2) + n = n + 2 ^ k * (2 ^ d * 2) by omega, Nat.add_mul_div_left _ _ (Nat.two_pow_pos k)]
      omega
    simp only [bitsN, ih, e]
theorem exts_bits : ∀ k, exts k [] = (List.range (2 ^ k)).map (bitsN k)
  | 0 => rfl
  | k + 1 => by
    have h1 : exts (k + 1) [] = exts k [false] ++ exts k [true] := rfl
    rw [h1, exts_nil k [false], exts_nil k [true], exts_bits k, show 2 ^ (k + 1) = 2 ^ k + 2 ^ k by omega, List.range_add, List.map_append, List.map_map, List.map_map, List.map_map]
    congr 1
    · refine List.map_congr_left fun n hn => ?_
      rw [List.mem_range] at hn
      show [false] ++ bitsN k n = bitsN (k + 1) n
      simp [bitsN, Nat.div_eq_of_lt hn]
    · refine List.map_congr_left fun n hn => ?_
      rw [List.mem_range] at hn
      show [true] ++ bitsN k n = bitsN (k + 1) (2 ^ k + n)
      have e : (2 ^ k + n) / 2 ^ k = 1 := by
        rw [Nat.add_div_left _ (Nat.two_pow_pos k), Nat.div_eq_of_lt hn]
      simp [bitsN, e, bitsN_add k k n (Nat.le_refl _)]
/-- The buildable ones of the first n variants. -/
def varsN (m : Mo) (n : Nat) : List (List Bool) := ((List.range n).map (bitsN m.opts.length)).filter fun x => allF (vf x) m.rules
theorem varsN_yes {m : Mo} {n : Nat} (h : allF (vf (bitsN m.opts.length n)) m.rules = true) : varsN m (n + 1) = varsN m n ++ [bitsN m.opts.length n] := by
  simp [varsN, List.range_succ, List.filter_append, h]
theorem varsN_no {m : Mo} {n : Nat} (h : allF (vf (bitsN m.opts.length n)) m.rules = false) : varsN m (n + 1) = varsN m n := by
  simp [varsN, List.range_succ, List.filter_append, h]
/-- The buildable variants. -/
def allM (m : Mo) : List (List Bool) := (exts m.opts.length []).filter fun x => allF (vf x) m.rules
theorem varsN_all (m : Mo) : varsN m (2 ^ m.opts.length) = allM m := by
  unfold varsN allM
  rw [exts_bits]
theorem varsN_le (m : Mo) (n : Nat) : (varsN m n).length ≤ n := by
  unfold varsN
  refine Nat.le_trans (List.length_filter_le _ _) ?_
  simp
theorem allM_le (m : Mo) : (allM m).length ≤ 2 ^ m.opts.length := by
  rw [← varsN_all]; exact varsN_le _ _
theorem allM_len {m : Mo} {x : List Bool} (h : x ∈ allM m) : x.length = m.opts.length := by
  unfold allM at h
  rw [List.mem_filter] at h
  have := exts_len _ _ _ h.1
  simpa using this
theorem satM_true (m : Mo) : satM m (fun _ => true) = allM m := by
  unfold satM allM
  exact List.filter_congr fun x _ => by simp
/-- Those of some variants in which a formula holds. -/
def whereF (l : List (List Bool)) (f : List Int) : List (List Bool) := l.filter fun x => evF1 (vf x) f
end Go.Proofs.Ytmabfnddedffoaa
/- Lists of rows in memory, and a list of rows that is being made. -/
namespace Go.Proofs.Ytmabfnddedffoaa
open Go.RowKit
set_option linter.unusedVariables false
set_option linter.unusedSimpArgs false
section
variable {α : Type} (enc : α → Value) (z : α)
/-- The slice v holds the list l, below block B. -/
def GRow (w : World) (B : Nat) (v : Value) (l : List α) : Prop := Sl w B 1 v l.length (fun j _ => enc (l.getD j z))
/-- The slice v holds rows, below block B. -/
def GRows (w : World) (B : Nat) (v : Value) (L : List (List α)) : Prop := ∃ fv : Nat → Value, Sl w B 1 v L.length (fun i _ => fv i) ∧ ∀ i, i < L.length → GRow enc z w B (fv i) (L.getD i [])
/-- A list of rows that is being made: its own block lies from block B on, no row lies in it, and none in X. -/
structure GS (e : Nat) (X : Nat → Prop) (B : Nat) (w : World) (sv : Value) (L : List (List α)) (vs : List Value) : Prop where
  len : vs.length = L.length
  own : w.ownsRow B e 1 sv L.length vs
  nx : ∀ b, sv.ownBlock = some b → ¬ X b
  row : ∀ i, i < L.length → GRow enc z w w.heap.size (vs.getD i undef) (L.getD i [])
  ap : ∀ i, i < L.length → 0 < (L.getD i []).length → ∀ b, (vs.getD i undef).ownBlock = some b → ¬ X b ∧ sv.ownBlock ≠ some b
def GStk (e : Nat) (X : Nat → Prop) (B : Nat) (w : World) (sv : Value) (L : List (List α)) : Prop := ∃ vs, GS enc z e X B w sv L vs
variable {enc z}
theorem GRow.below {w w' : World} {B : Nat} {v : Value} {l : List α} (h : GRow enc z w B v l) (hb : Below B w w') : GRow enc z w' B v l := Sl.below h hb
theorem GRow.more {w : World} {B B' : Nat} {v : Value} {l : List α} (h : GRow enc z w B v l) (hB : B ≤ B') : GRow enc z w B' v l := Sl.more h hB
theorem GRow.up {w w' : World} {v : Value} {l : List α} (h : GRow enc z w w.heap.size v l) (hb : Below w.heap.size w w') : GRow enc z w' w'.heap.size v l := Sl.up h hb
theorem GRow.form {w : World} {B : Nat} {v : Value} {l : List α} (h : GRow enc z w B v l) : ∃ A cap, v = .slice A l.length cap := Sl.form h
/-- A row that is not empty lies in a block that there is. -/
theorem GRow.block {w : World} {B : Nat} {v : Value} {l : List α} (h : GRow enc z w B v l) (hl : 0 < l.length) : ∃ b off cap, v = .slice (some ⟨b, off, none⟩) l.length cap ∧ b < B ∧ v.ownBlock = some b := by
  obtain ⟨A, b, off, cap, rfl, _, hA, _⟩ := h
  rcases hA with ⟨rfl, hb⟩ | h0
  · exact ⟨b, off, cap, rfl, hb, rfl⟩
  · omega
/-- A row stays where its block stays. -/
theorem GRow.stay {w w' : World} {B : Nat} {v : Value} {l : List α} (h : GRow enc z w B v l) (hs : ∀ b, 0 < l.length → v.ownBlock = some b → b < B → w'.heap[b]? = w.heap[b]?) : GRow enc z w' B v l := by
  obtain ⟨A, b, off, cap, rfl, hn, hA, hc⟩ := h
  refine ⟨A, b, off, cap, rfl, hn, hA, fun i j hi hj => ?_⟩
  rcases hA with ⟨rfl, hb⟩ | h0
  · have := hs b (by omega) rfl hb
    exact (World.cell?_of_block (a := ⟨b, off + (i * 1 + j), none⟩) this).trans (hc i j hi hj)
  · omega
theorem GRows.below {w w' : World} {B : Nat} {v : Value} {L : List (List α)} (h : GRows enc z w B v L) (hb : Below B w w') : GRows enc z w' B v L := by
  obtain ⟨fv, h1, h2⟩ := h
  exact ⟨fv, h1.below hb, fun i hi => (h2 i hi).below hb⟩
theorem GRows.more {w : World} {B B' : Nat} {v : Value} {L : List (List α)} (h : GRows enc z w B v L) (hB : B ≤ B') : GRows enc z w B' v L := by
  obtain ⟨fv, h1, h2⟩ := h
  exact ⟨fv, h1.more hB, fun i hi => (h2 i hi).more hB⟩
theorem GRows.up {w w' : World} {v : Value} {L : List (List α)} (h : GRows enc z w w.heap.size v L) (hb : Below w.heap.size w w') : GRows enc z w' w'.heap.size v L := (h.below hb).more hb.size
theorem GRows.form {w : World} {B : Nat} {v : Value} {L : List (List α)} (h : GRows enc z w B v L) : ∃ A cap, v = .slice A L.length cap := by
  obtain ⟨fv, h1, _⟩ := h
  exact Sl.form h1
theorem GRows.take {w : World} {B : Nat} {A : Option Addr} {n cap k : Nat} {L : List (List α)} (h : GRows enc z w B (.slice A n cap) L) (hk : k ≤ L.length) : GRows enc z w B (.slice A k cap) (L.take k) := by
  obtain ⟨fv, ⟨A1, b, off, cap1, hv, hn, hA, hc⟩, h2⟩ := h
  injection hv with e1 e2 e3
  subst e1 e3
  have hl : (L.take k).length = k := by simp; omega
  refine ⟨fv, ⟨A, b, off, cap, by rw [hl], by omega, by rw [hl]; rcases hA with h | h; exact .inl h; exact .inr (by omega), fun i j hi hj => hc i j (by omega) hj⟩, fun i hi => ?_⟩
  have h3 := h2 i (by omega)
  rw [show (L.take k).getD i [] = L.getD i [] by rw [List.getD_eq_getElem?_getD, List.getElem?_take_of_lt (by omega), ← List.getD_eq_getElem?_getD]]
  exact h3
theorem GRows.nil (w : World) (B : Nat) : GRows enc z w B (.slice none 0 0) [] := ⟨fun _ => undef, Sl.nil _ _ _ _, fun i hi => by simp at hi⟩
theorem GStk.nil {e : Nat} {X : Nat → Prop} (w : World) (B : Nat) : GStk enc z e X B w (.slice none 0 0) [] :=
  ⟨[], rfl, World.ownsRow_nil w B e 1, fun b hb => (by cases hb), fun i hi => by simp at hi, fun i hi => by simp at hi⟩
theorem GStk.form {e : Nat} {X : Nat → Prop} {B : Nat} {w : World} {sv : Value} {L : List (List α)} (h : GStk enc z e X B w sv L) : ∃ A cap, sv = .slice A L.length cap ∧ L.length ≤ cap ∧ cap ≤ maxLen := by
  obtain ⟨vs, h⟩ := h
  rcases h.own.2 with ⟨h1, h2⟩ | ⟨g, cap, cur, h1, _, _, h2, h3, _⟩
  · exact ⟨none, 0, by rw [h1, h2], by omega, by unfold maxLen; omega⟩
  · exact ⟨_, cap, h1, h2, h3⟩
theorem GStk.lt {e : Nat} {X : Nat → Prop} {B : Nat} {w : World} {sv : Value} {L : List (List α)} (h : GStk enc z e X B w sv L) : ∀ b, sv.ownBlock = some b → B ≤ b ∧ b < w.heap.size := by
  obtain ⟨vs, h⟩ := h
  exact h.own.lt
theorem ownsRow_same {w w' : World} {base e size n : Nat} {v : Value} {xs : List Value} (h : w.ownsRow base e size v n xs) (hs : ∀ b, v.ownBlock = some b → w'.heap[b]? = w.heap[b]?) : w'.ownsRow base e size v n xs := by
  obtain ⟨h1, h2 | ⟨g, cap, cur, rfl, h4, h5, h6⟩⟩ := h
  · exact ⟨h1, .inl h2⟩
  · exact ⟨h1, .inr ⟨g, cap, cur, rfl, h4, (hs g rfl).trans h5, h6⟩⟩
theorem GS.step {e : Nat} {S X X' : Nat → Prop} {B : Nat} {w w' : World} {sv : Value} {L : List (List α)} {vs : List Value} (h : GS enc z e X B w sv L vs) (hk : Keeps S w w') (hS : ∀ b, b < w.heap.size → S b → X b) (hX : ∀ b, b < w.heap.size → X' b → X b) : GS enc z e X' B w' sv L vs := by
  refine ⟨h.len, ownsRow_same h.own fun b hb => hk.block b (h.own.lt b hb).2 fun hs => h.nx b hb (hS b (h.own.lt b hb).2 hs), fun b hb hx => h.nx b hb (hX b (h.own.lt b hb).2 hx), fun i hi => ?_, fun i hi hl b hb => ?_⟩
  · exact ((h.row i hi).stay fun b hl hb hlt => hk.block b hlt fun hs => (h.ap i hi hl b hb).1 (hS b hlt hs)).more hk.size
  · obtain ⟨b', _, _, _, hlt, hob⟩ := (h.row i hi).block hl
    rw [hob] at hb
    injection hb with hb
    subst hb
    have h3 := h.ap i hi hl b' hob
    exact ⟨fun hx => h3.1 (hX b' hlt hx), h3.2⟩
theorem GStk.step {e : Nat} {S X X' : Nat → Prop} {B : Nat} {w w' : World} {sv : Value} {L : List (List α)} (h : GStk enc z e X B w sv L) (hk : Keeps S w w') (hS : ∀ b, b < w.heap.size → S b → X b) (hX : ∀ b, b < w.heap.size → X' b → X b) : GStk enc z e X' B w' sv L := by
  obtain ⟨vs, h⟩ := h
  exact ⟨vs, h.step hk hS hX⟩
theorem GS.below {e : Nat} {X : Nat → Prop} {B : Nat} {w w' : World} {sv : Value} {L : List (List α)} {vs : List Value} (h : GS enc z e X B w sv L vs) (hb : Below w.heap.size w w') : GS enc z e X B w' sv L vs :=
  h.step (S := fun _ => False) (Keeps.of_below hb) (fun _ _ h => h.elim) (fun _ _ h => h)
theorem GStk.below {e : Nat} {X : Nat → Prop} {B : Nat} {w w' : World} {sv : Value} {L : List (List α)} (h : GStk enc z e X B w sv L) (hb : Below w.heap.size w w') : GStk enc z e X B w' sv L :=
  h.step (S := fun _ => False) (Keeps.of_below hb) (fun _ _ h => h.elim) (fun _ _ h => h)
theorem GStk.base {e : Nat} {X : Nat → Prop} {B B' : Nat} {w : World} {sv : Value} {L : List (List α)} (h : GStk enc z e X B w sv L) (hB : B' ≤ B) : GStk enc z e X B' w sv L := by
  obtain ⟨vs, h⟩ := h
  exact ⟨vs, h.len, owns_base h.own hB, h.nx, h.row, h.ap⟩
theorem GStk.rows {e : Nat} {X : Nat → Prop} {B : Nat} {w : World} {sv : Value} {L : List (List α)} (h : GStk enc z e X B w sv L) : GRows enc z w w.heap.size sv L := by
  obtain ⟨vs, h⟩ := h
  refine ⟨fun i => vs.getD i undef, Sl.of_owns h.own fun i j hi hj => ?_, h.row⟩
  obtain rfl : j = 0 := by omega
  have := h.len
  have hi2 : i < vs.length := by omega
  rw [Nat.mul_one, Nat.add_zero]
  simp [hi2]
theorem getD_push {β : Type} {l : List β} {x d : β} {i : Nat} : (l ++ [x]).getD i d = if i < l.length then l.getD i d else if i = l.length then x else d := by
  split
  · rename_i h
    rw [List.getD_eq_getElem?_getD, List.getElem?_append_left h, ← List.getD_eq_getElem?_getD]
  · rename_i h
    split
    · rename_i h2
      subst h2
      simp
    · rw [List.getD_eq_getElem?_getD, List.getElem?_eq_none (by simp; omega)]
      rfl
/-- One more row. -/
theorem GS.push {e : Nat} {X : Nat → Prop} {B : Nat} {w w1 : World} {A : Option Addr} {n cap : Nat} {L : List (List α)} {vs : List Value} {rv v1 : Value} {l : List α} {o : Obj} (h : GS enc z e X B w (.slice A n cap) L vs) (hr : GRow enc z w w.heap.size rv l)
    (hrx : 0 < l.length → ∀ b, rv.ownBlock = some b → ¬ X b ∧ (Value.slice A n cap).ownBlock ≠ some b) (hXw : ∀ b, X b → b < w.heap.size)
    (hown : w1.ownsRow B e 1 v1 (L.length + 1) (vs ++ [rv])) (hg : (w.alloc o).grownBy w1 (Value.slice A n cap).ownBlock)
    (hat : v1.ownBlock = (Value.slice A n cap).ownBlock ∨ v1.ownBlock = some (w.alloc o).heap.size) :
    GStk enc z e X B w1 v1 (L ++ [l]) ∧ Keeps (fun i => (Value.slice A n cap).ownBlock = some i) w w1 := by
  have hk : Keeps (fun i => (Value.slice A n cap).ownBlock = some i) w w1 := Keeps.trans ((Keeps.refl _ w).alloc o) (Keeps.of_grown hg (fun k hk => hk)) (fun _ _ h => h)
  have hvl := h.len
  have hsz := hk.size
  have hall : ∀ i, i < (L ++ [l]).length → GRow enc z w w.heap.size ((vs ++ [rv]).getD i undef) ((L ++ [l]).getD i []) ∧ (0 < ((L ++ [l]).getD i []).length → ∀ b, ((vs ++ [rv]).getD i undef).ownBlock = some b → ¬ X b ∧ (Value.slice A n cap).ownBlock ≠ some b) := by
    intro i hi
    rw [getD_push, getD_push, hvl]
    by_cases h1 : i < L.length
    · rw [if_pos h1, if_pos h1]
      exact ⟨h.row i h1, h.ap i h1⟩
    · have : i = L.length := by simp at hi; omega
      rw [if_neg h1, if_pos this, if_neg h1, if_pos this]
      exact ⟨hr, hrx⟩
  refine ⟨⟨vs ++ [rv], by simp [hvl], by rw [List.length_append]; exact hown, fun b hb hx => ?_, fun i hi => ?_, fun i hi hl b hb => ?_⟩, hk⟩
  · rcases hat with h1 | h1
    · exact h.nx b (h1.symm.trans hb) hx
    · rw [h1] at hb
      injection hb with hb
      have := hXw b hx
      simp at hb
      omega
  · obtain ⟨q1, q2⟩ := hall i hi
    exact (q1.stay fun b hl hb hlt => hk.block b hlt fun hs => (q2 hl b hb).2 hs).more hsz
  · obtain ⟨q1, q2⟩ := hall i hi
    obtain ⟨b', _, _, _, hlt, hob⟩ := q1.block hl
    have hbb : b = b' := by rw [hob] at hb; injection hb with hb; exact hb.symm
    subst hbb
    refine ⟨(q2 hl b hob).1, fun hv => ?_⟩
    rcases hat with h1 | h1
    · exact (q2 hl b hob).2 (h1.symm.trans hv)
    · rw [h1] at hv
      injection hv with hv
      simp at hv
      omega
end
/-- Variants. -/
abbrev Vars (w : World) (B : Nat) (v : Value) (L : List (List Bool)) : Prop := GRows Value.bool false w B v L
abbrev VStk (X : Nat → Prop) (B : Nat) (w : World) (sv : Value) (L : List (List Bool)) : Prop := GStk Value.bool false 38 X B w sv L
theorem infoBools : (Try.prog.info? 38).map (fun i => (i.zero, i.size, i.bytes)) = some (some (.slice none 0 0), 1, 24) := by kernel_rfl
theorem infoForm : (Try.prog.info? 66).map (fun i => (i.zero, i.size, i.bytes)) = some (some (.slice none 0 0), 1, 24) := by kernel_rfl
end Go.Proofs.Ytmabfnddedffoaa
/- The variant with a number: walk. -/
namespace Go.Proofs.Ytmabfnddedffoaa
open Go.RowKit
set_option linter.unusedVariables false
set_option linter.unusedSimpArgs false
theorem and1 (x : Int) (h0 : 0 ≤ x) (h1 : x < 9223372036854775808) : bits .and .i64 x 1 = x % 2 := by
  have h := bits_mask .i64 63 (by decide) wrap_small 1 (by decide) x h0 (by simpa using h1)
  have e : ((2 : Int) ^ 1 - 1) = 1 := by decide
  have e2 : ((2 : Int) ^ 1) = 2 := by decide
  rw [e, e2] at h
  exact h
theorem bit_one (n d : Nat) (h : n < 9223372036854775808) : decide (n / 2 ^ d % 2 = 1) = (bits .and .i64 ((n : Int) / 2 ^ d) 1 == 1) := by
  have e : (n : Int) / 2 ^ d = ((n / 2 ^ d : Nat) : Int) := by simp
  have h2 : n / 2 ^ d ≤ n := Nat.div_le_self _ _
  rw [e]
  generalize n / 2 ^ d = q at h2 ⊢
  rw [and1 _ (by omega) (by omega)]
  by_cases h3 : q % 2 = 1
  · simp [h3]; omega
  · simp [h3]; omega
set_option maxRecDepth 100000 in
set_option maxHeartbeats 2000000 in
theorem variant_any (N n : Nat) (w : World) (hN : N ≤ 12) (hn : n < 2 ^ N) :
    Calls Try.prog 169 #[.int .i64 n, .int .i64 N] w fun e w' => e = .returned (.slice (some ⟨w.heap.size, 0, none⟩) N N) ∧ VarAt w' w.heap.size N (bitsN N n) ∧ Below w.heap.size w w' := by
  obtain ⟨i1, hi1, jz0, jz1, jz2⟩ := info_parts infoBool
  have hmk : ∀ W : World, (Instr.makeSlice 38 (.int .i64 N) (.int .i64 N)).run Try.prog W = .ok (.slice (some ⟨W.heap.size, 0, none⟩) N N) (W.alloc (.cells (madeCells #[.bool false] (N * 1)) 4)) := fun W => by
    have h1 := run_make (P := Try.prog) W 38 4 i1 (.bool false) Try.underlying38 hi1 jz0 .i64 .i64 N N (by omega) (Int.le_refl _) (by rw [jz2]; omega) (by omega)
    rw [jz1] at h1
    simpa [Value.cells] using h1
  go_enter Try.func169, Try.ntmps169
  go_wp2
  generalize hw0 : World.alloc _ _ = w0
  obtain ⟨hb0, hB0, hs0⟩ := alloc1 hw0
  clear hw0
  have hva : VarAt w0 w.heap.size N [] := by
    unfold VarAt
    rw [hb0, made_bools]
    rfl
  have HVA := hide hva
  have HB0 := hide hB0
  clear hb0 hB0 hs0 hva hmk
  have hn12 : (n : Int) < 4096 := by
    have : 2 ^ N ≤ 2 ^ 12 := Nat.pow_le_pow_right (by omega) hN
    omega
  go_loopw [6] (fun i wr => ∃ k : Nat, k ≤ N ∧ i = .int .i64 k ∧ Hid (VarAt wr w.heap.size N ((bitsN N n).take k)) ∧ Hid (Below w.heap.size w wr)) (fun i _ => N - (intOf i).toNat)
  case atStart => exact ⟨0, Nat.zero_le _, rfl, HVA.out, HB0.out⟩
  case round =>
    obtain ⟨k, hk, rfl, hV, hB⟩ := hrel
    by_cases hlt : k < N
    · have hll : ((bitsN N n).take k).length = k := by simp [bitsN_len]; omega
      have c0 : wr.cell? ⟨w.heap.size, k, none⟩ = some (.bool false) := by have := hV.out.cell (by rw [hll]; exact hlt); rwa [hll] at this
      have c1 : wr.frozen? ⟨w.heap.size, k, none⟩ = false := unfrozenOf hV.out _
      clear hll
      go_wp2_with fail
      go_roundw
      case rel =>
        refine ⟨k + 1, by omega, by go_num, ?_, ?_⟩
        · have h1 := hV.out.set (by simp [bitsN_len]; omega) (bits .and .i64 ((n : Int) / 2 ^ (N - 1 - k)) 1 == 1)
          have hll : ((bitsN N n).take k).length = k := by simp [bitsN_len]; omega
          rw [hll] at h1
          rw [take_getD (z := false) (by rw [bitsN_len]; exact hlt), bitsN_get N n k hlt, bit_one _ _ (by omega)]
          exact h1
        · exact hB.out.setCell (Nat.le_refl _) _
      case measure => simp [intOf]; omega
    · obtain rfl : k = N := by omega
      have hV2 := hV.out
      rw [List.take_of_length_le (by rw [bitsN_len]; exact Nat.le_refl _)] at hV2
      have HV2 := hide hV2
      clear hV2
      go_wp2_with fail
      go_ret
      exact ⟨rfl, HV2.out, hB.out⟩
end Go.Proofs.Ytmabfnddedffoaa
/- All buildable variants, and those in which a formula holds, as the elder program has them: walks. -/
namespace Go.Proofs.Ytmabfnddedffoaa
open Go.RowKit
set_option linter.unusedVariables false
set_option linter.unusedSimpArgs false
theorem fst_neg {m : Mo} {vs : List Bool} (h : allF (vf vs) m.rules = true) : fstR vs m.rules = -1 := by
  refine idxI_none _ [] _ fun j hj => ?_
  have := (List.all_eq_true.1 h) (m.rules.getD j []) (getD_mem hj)
  simp only [this]; rfl
theorem fst_pos {m : Mo} {vs : List Bool} (h : allF (vf vs) m.rules = false) : 0 ≤ fstR vs m.rules := by
  have h1 := idxI_any (fun f => !evF1 (vf vs) f) m.rules
  have h2 : m.rules.any (fun f => !evF1 (vf vs) f) = true := by
    unfold allF at h
    rw [List.all_eq_false] at h
    obtain ⟨x, hx, hy⟩ := h
    rw [List.any_eq_true]
    exact ⟨x, hx, by simpa using hy⟩
  rw [h2, decide_eq_true_eq] at h1
  exact h1
theorem bitsN_vars {w : World} {b N n : Nat} (h : VarAt w b N (bitsN N n)) : Bols w w.heap.size (.slice (some ⟨b, 0, none⟩) N N) (bitsN N n) := by
  have h1 := VarAt.bols (w := w) (b := b) (l := bitsN N n) (by rw [bitsN_len]; exact h)
  rw [bitsN_len] at h1
  exact h1
set_option maxRecDepth 100000 in
set_option maxHeartbeats 4000000 in
theorem Variants_any (m : Mo) (ov rv : Value) (w : World) (h : MoAt w w.heap.size ov rv m) (he : m.err = 0) (hN : m.opts.length ≤ 12) :
    Calls Try.prog 152 #[.agg #[ov, rv]] w fun e w' => ∃ v, e = .returned v ∧ VStk (fun _ => False) w.heap.size w' v (allM m) ∧ Below w.heap.size w w' := by
  obtain ⟨i1, hi1, jz0, jz1, jz2⟩ := info_parts infoBools
  obtain ⟨A, cap, hov⟩ := Sl.form h.o
  obtain ⟨Ar, capr, hrv⟩ := h.r.form
  have H := hide h
  have HE := hide he
  subst hov hrv
  clear h he
  go_enter Try.func152, Try.ntmps152
  go_upto_region 1 with (fail)
  generalize hw0 : World.alloc _ _ = w0
  obtain ⟨hb0, hB0, hs0⟩ := alloc1 hw0
  clear hw0
  have HX0 : Hid (MoBox w0 w.heap.size (.slice A m.opts.length cap) (.slice Ar m.rules.length capr)) := hb0
  have HB0 := hide hB0
  clear hb0 hB0 hs0
  have hp12 : 2 ^ m.opts.length ≤ 4096 := by
    have : 2 ^ m.opts.length ≤ 2 ^ 12 := Nat.pow_le_pow_right (by omega) hN
    omega
  have hvl := varsN_all m
  have hbl : ∀ k, k < 2 ^ m.opts.length → Hid (k < 2 ^ m.opts.length) := fun k h => h
  have hwr : wrap64 ((2 : Int) ^ m.opts.length) = ((2 ^ m.opts.length : Nat) : Int) := by
    rw [show ((2 : Int) ^ m.opts.length) = ((2 ^ m.opts.length : Nat) : Int) by simp]
    generalize 2 ^ m.opts.length = p at hp12 ⊢
    exact IntWalk.wrap64_in _ (by omega)
  obtain ⟨p, hp⟩ : ∃ p, 2 ^ m.opts.length = p := ⟨_, rfl⟩
  rw [hp] at hp12 hvl hwr
  have HVL := hide hvl
  have HBL : Hid (∀ k, k < p → k < 2 ^ m.opts.length) := fun k hk => by rw [hp]; exact hk
  clear hvl hp hbl
  go_wp2_with fail
  go_loopw [3, 4] (fun sv i wr => ∃ k : Nat, k ≤ p ∧ i = .int .i64 k ∧ Hid (VStk (fun _ => False) (w.heap.size + 1) wr sv (varsN m k)) ∧ Hid (Below w.heap.size w wr) ∧ Hid (MoBox wr w.heap.size (.slice A m.opts.length cap) (.slice Ar m.rules.length capr))) (fun _ i _ => p - (intOf i).toNat)
  case atStart => exact ⟨0, Nat.zero_le _, rfl, GStk.nil _ _, HB0.out, HX0.out⟩
  case round =>
    obtain ⟨k, hk, rfl, hS, hB, hX⟩ := hrel
    have c0 := cellOf hX.out 0
    have c1 := cellOf hX.out 1
    by_cases hlt : k < p
    · have hsz := box_lt hX.out
      have hvar := variant_any m.opts.length k wr hN (HBL.out k hlt)
      have HVAR := hide hvar
      obtain ⟨f, hf⟩ : ∃ f, fstR (bitsN m.opts.length k) m.rules = f := ⟨_, rfl⟩
      have HF := hide hf
      have HSZ := hide hsz
      obtain ⟨A1, cap1, hA1, hcap1, hcap2⟩ := hS.out.form
      subst hA1
      obtain ⟨vs, hgs⟩ := hS.out
      have HGS := hide hgs
      have hvk := varsN_le m k
      clear hvar hf hsz hgs
      cases hal : allF (vf (bitsN m.opts.length k)) m.rules with
      | true =>
        have hf1 : f = -1 := HF.out.symm.trans (fst_neg hal)
        have hvs := varsN_yes hal
        have hf2 : f < 0 := by omega
        have HF1 := hide hf1
        have HVS := hide hvs
        have HVK := hide hvk
        clear hal hf1 hvs hvk
        go_wp2_with (first | (go_at_call 169; refine HVAR.out.mono ?_; rintro e w1 ⟨rfl, hv1, hB1⟩; have hbx := box_to hX.out hB1; have d0 := cellOf hbx 0; have d1 := cellOf hbx 1; have HV1 := hide hv1; have HB1 := hide hB1; have HX1 := hide hbx; clear hbx hv1 hB1 c0 c1) | (go_at_call 125; refine (rfirst_any m (bitsN m.opts.length k) _ _ _ _ ((H.out.up hB.out).up HB1.out) (bitsN_vars HV1.out) HE.out (bitsN_len _ _)).mono ?_; rw [HF.out]; rintro e w2 ⟨rfl, hB2⟩; have hbx := box_to HX1.out hB2; have HX2 := hide hbx; have HB2 := hide hB2; have HG2 := hide ((HGS.out.below HB1.out).below hB2); have HS2 : Hid (w.heap.size + 1 ≤ w2.heap.size) := (by have h1 := HSZ.out; have h2 := HB1.out.size; have h3 := hB2.size; show _ ≤ _; omega); clear hbx hB2 d0 d1) | (at_builtin; go_must (refine wpList_append_own_at _ rfl (.tmp 24) (.tmp 26) _ rfl (w.heap.size + 1) 38 i1 _ 1 24 Try.underlying164 hi1 jz0 jz1 jz2 rfl (by omega) _ _ _ rfl ((HG2.out.own).alloc _) ⟨w2.heap.size, 0, none⟩ 1 1 [.slice (some ⟨wr.heap.size, 0, none⟩) m.opts.length m.opts.length] rfl rfl (World.news_of_block (heap_alloc_new w2 _)) (by simp [Value.oneCell']) (by have h1 := HVK.out; unfold maxLen; omega) (by have h1 := HVK.out; omega) (by have h1 := HS2.out; simp; omega) ?_); intro v1 w3 hown1 hg1 _ hat1; have HOWN := hide hown1; have HG1 := hide hg1; have HAT := hide hat1; clear hown1 hg1 hat1))
        go_roundw
        case rel =>
          have hp := HG2.out.push ((bitsN_vars HV1.out).up HB2.out) (fun _ b hb => ⟨fun h => h, fun hc => by
            have h1 := HGS.out.own.lt b hc
            injection hb with hb
            simp at hb
            omega⟩) (fun _ h => h.elim) HOWN.out HG1.out HAT.out
          have hlo : ∀ i, (Value.slice A1 (varsN m k).length cap1).ownBlock = some i → w.heap.size + 1 ≤ i := fun i hi => (HGS.out.own.lt i hi).1
          refine ⟨k + 1, by omega, by go_num, ?_, ?_, ?_⟩
          · rw [HVS.out]; exact hp.1
          · exact (Below.to (Below.to hB.out HB1.out (Nat.le_refl _)) HB2.out (Nat.le_refl _)).trans (hp.2.below (by have := HS2.out; omega) (fun k hk => by have := hlo k hk; omega))
          · exact (hp.2.block _ (by have := HS2.out; omega) (fun hk => by have := hlo _ hk; omega)).trans HX2.out
        case measure => simp [intOf]; omega
      | false =>
        have hf1 := fst_pos hal
        rw [HF.out] at hf1
        have hvs := varsN_no hal
        have HVS := hide hvs
        have hf2 : ¬ f < 0 := by omega
        clear hal hf1 hvs hvk
        go_wp2_with (first | (go_at_call 169; refine HVAR.out.mono ?_; rintro e w1 ⟨rfl, hv1, hB1⟩; have hbx := box_to hX.out hB1; have d0 := cellOf hbx 0; have d1 := cellOf hbx 1; have HV1 := hide hv1; have HB1 := hide hB1; have HX1 := hide hbx; clear hbx hv1 hB1 c0 c1) | (go_at_call 125; refine (rfirst_any m (bitsN m.opts.length k) _ _ _ _ ((H.out.up hB.out).up HB1.out) (bitsN_vars HV1.out) HE.out (bitsN_len _ _)).mono ?_; rw [HF.out]; rintro e w2 ⟨rfl, hB2⟩; have hbx := box_to HX1.out hB2; have HX2 := hide hbx; have HB2 := hide hB2; have HG2 := hide ((HGS.out.below HB1.out).below hB2); clear hbx hB2 d0 d1))
        go_roundw
        case rel =>
          exact ⟨k + 1, by omega, by go_num, by rw [HVS.out]; exact ⟨vs, HG2.out⟩, Below.to (Below.to hB.out HB1.out (Nat.le_refl _)) HB2.out (Nat.le_refl _), HX2.out⟩
        case measure => simp [intOf]; omega
    · obtain rfl : k = p := by omega
      obtain ⟨A1, cap1, hA1, hcap1, hcap2⟩ := hS.out.form
      have hs := hS.out.base (B' := w.heap.size) (by omega)
      rw [HVL.out] at hs
      have HSS := hide hs
      clear hs
      subst hA1
      go_wp2_with fail
      go_ret
      exact ⟨_, rfl, HSS.out, hB.out⟩
end Go.Proofs.Ytmabfnddedffoaa
/- Those of some variants in which a formula holds, as the elder program has them: walk. -/
namespace Go.Proofs.Ytmabfnddedffoaa
open Go.RowKit
set_option linter.unusedVariables false
set_option linter.unusedSimpArgs false
end Go.Proofs.Ytmabfnddedffoaa
/- Count and List as the elder program has them: walks. -/
namespace Go.Proofs.Ytmabfnddedffoaa
open Go.RowKit
set_option linter.unusedVariables false
set_option linter.unusedSimpArgs false
theorem allM_le4 {m : Mo} (h : m.opts.length ≤ 12) : (allM m).length ≤ 4096 := by
  have h1 := allM_le m
  have h2 : 2 ^ m.opts.length ≤ 2 ^ 12 := Nat.pow_le_pow_right (by omega) h
  omega
/-- What Count returns. -/
def cntE (m : Mo) (f : List Int) : Nat := if m.errF [f] ≠ 0 then 0 else (whereF (allM m) f).length
end Go.Proofs.Ytmabfnddedffoaa
/- List as the elder program has it: walk. -/
namespace Go.Proofs.Ytmabfnddedffoaa
open Go.RowKit
set_option linter.unusedVariables false
set_option linter.unusedSimpArgs false
/-- What List returns. -/
def lisE (m : Mo) (f : List Int) (most : Int) : Int := if m.errF [f] ≠ 0 then m.errF [f] else if most < 1 ∨ 64 < most then 1 else 0
def lisL (m : Mo) (f : List Int) (most : Int) : List (List Bool) := if lisE m f most = 0 then (whereF (allM m) f).take most.toNat else []
/-- A list of variants and an error. -/
def ListP (L : List (List Bool)) (x : Int) (w : World) (e : Ending) (w' : World) : Prop := ∃ v, e = .returned (.tuple #[v, .int .i64 x]) ∧ Vars w' w'.heap.size v L ∧ Below w.heap.size w w'
theorem ListP.none (x : Int) {w w' : World} (h : Below w.heap.size w w') : ListP [] x w (.returned (.tuple #[.slice none 0 0, .int .i64 x])) w' := ⟨_, rfl, GRows.nil _ _, h⟩
end Go.Proofs.Ytmabfnddedffoaa
/- The model of the examples; equal variants: walks. -/
namespace Go.Proofs.Ytmabfnddedffoaa
open Go.RowKit
set_option linter.unusedVariables false
set_option linter.unusedSimpArgs false
theorem results_cell1 {P : Program} {fn : Func} {p : Tmp} {ty : TypeId} (h : fn.results = #[.cell p ty]) (tmps : Array Value) (w : World) :
    (results fn tmps).run P w = ((asAddr (tmps.getD p undef)).run P w).andThen fun a w₁ => (loadVar ty a).run P w₁ := by
  simp only [results, h]
  simp [Sem.run_bind, Result.andThen]
  try (congr; done)
theorem sl_box {w : World} {b B n t : Nat} {C : Array Value} {f : Nat → Nat → Value} (hb : w.heap[b]? = some (.cells C t (0, 0))) (hB : b < B) (h : ∀ i, i < n → C[i]? = some (f i 0)) : Sl w B 1 (.slice (some ⟨b, 0, none⟩) n n) n f :=
  ⟨_, b, 0, n, rfl, Nat.le_refl _, .inl ⟨rfl, hB⟩, fun i j hi hj => by
    obtain rfl : j = 0 := by omega
    rw [Nat.mul_one, Nat.add_zero, Nat.zero_add, cellOf hb]
    exact h i hi⟩
theorem ints_box {w : World} {b B t : Nat} {l : List Int} (hb : w.heap[b]? = some (.cells (l.map (Value.int .i64)).toArray t (0, 0))) (hB : b < B) : Ints w B (.slice (some ⟨b, 0, none⟩) l.length l.length) l :=
  sl_box hb hB fun i hi => by simp [hi]
theorem names_box {w : World} {b B t : Nat} {l : List ByteArray} (hb : w.heap[b]? = some (.cells (l.map Value.string).toArray t (0, 0))) (hB : b < B) : Names w B (.slice (some ⟨b, 0, none⟩) l.length l.length) l :=
  sl_box hb hB fun i hi => by simp [hi]
/-- The model of the examples. -/
def exM : Mo := ⟨[⟨#[116, 111, 119]⟩, ⟨#[104, 101, 97, 116]⟩, ⟨#[108, 101, 100]⟩], [[-5, 1, 2], [-3, -4, 0, 2]]⟩
end Go.Proofs.Ytmabfnddedffoaa
/- The examples of the laws: walk. -/
namespace Go.Proofs.Ytmabfnddedffoaa
open Go.RowKit
set_option linter.unusedVariables false
set_option linter.unusedSimpArgs false
end Go.Proofs.Ytmabfnddedffoaa
/- Whether two lists of variants are equal; a copy of a variant: walks. -/
namespace Go.Proofs.Ytmabfnddedffoaa
open Go.RowKit
set_option linter.unusedVariables false
set_option linter.unusedSimpArgs false
end Go.Proofs.Ytmabfnddedffoaa
/- A copy of a variant: walk. -/
namespace Go.Proofs.Ytmabfnddedffoaa
open Go.RowKit
set_option linter.unusedVariables false
set_option linter.unusedSimpArgs false
/-- A variant in its own block above block B. -/
theorem Bols.flat {w : World} {B n cap : Nat} {A : Option Addr} {l : List Bool} (h : Bols w B (.slice A n cap) l) : Reads w B 1 A l.length (l.map Value.bool) := by
  have h1 := Sl.form h
  obtain ⟨A', cap', he⟩ := h1
  injection he with e1 e2 e3
  subst e1 e2 e3
  have h2 := Sl.reads h (by omega)
  have e : Go.Proofs.Ytmabfnddedffoaa.flat l.length 1 (fun i _ => Value.bool (l.getD i false)) = l.map Value.bool := by
    apply List.ext_getElem
    · simp [flat_length]
    · intro i q1 q2
      have h3 := flat_get (n := l.length) (sz := 1) (f := fun i _ => Value.bool (l.getD i false)) (i := i) (j := 0) (by simpa using q2) (by omega)
      rw [Nat.mul_one, Nat.add_zero, List.getElem?_eq_getElem q1] at h3
      injection h3 with h3
      rw [h3]
      have q3 : i < l.length := by simpa using q2
      simp [q3]
  rwa [e] at h2
end Go.Proofs.Ytmabfnddedffoaa
/- The first variants in which a node holds: walk. -/
namespace Go.Proofs.Ytmabfnddedffoaa
open Go.RowKit
set_option linter.unusedVariables false
set_option linter.unusedSimpArgs false
/-- What list leaves. -/
def ListR (F : Fo) (B : Nat) (L' : List (List Bool)) (out : Value) (w : World) (e : Ending) (w' : World) : Prop :=
  ∃ v', e = .returned v' ∧ VStk (SF F) B w' v' L' ∧ Keeps (fun k => out.ownBlock = some k) w w' ∧ (v'.ownBlock = out.ownBlock ∨ ∀ k, v'.ownBlock = some k → w.heap.size ≤ k)
theorem ListR.same {F : Fo} {B : Nat} {L L' : List (List Bool)} {out : Value} {w w' : World} (h : VStk (SF F) B w out L) (hL : L' = L) (hb : Below w.heap.size w w') : ListR F B L' out w (.returned out) w' := by
  subst hL
  exact ⟨out, rfl, h.below hb, Keeps.of_below hb, .inl rfl⟩
/-- What has been listed when k of the two ways have been gone. -/
def lstK (ks : List Kn) (N n : Nat) (l : List Bool) (k : Nat) : List (List Bool) := if k = 0 then [] else if k = 1 then sat ks N n (l ++ [false]) else sat ks N n l
end Go.Proofs.Ytmabfnddedffoaa
/- List: walk. -/
namespace Go.Proofs.Ytmabfnddedffoaa
open Go.RowKit
set_option linter.unusedVariables false
set_option linter.unusedSimpArgs false
end Go.Proofs.Ytmabfnddedffoaa
/- How large a model is; Count in one: walks. -/
namespace Go.Proofs.Ytmabfnddedffoaa
open Go.RowKit
set_option linter.unusedVariables false
set_option linter.unusedSimpArgs false
/-- Whether a model has more than a statement looks at. -/
def largeB (m : Mo) : Bool := (decide (9 < m.opts.length) && decide (m.opts.length ≤ 40)) || (decide (12 < m.rules.length) && decide (m.rules.length ≤ 60))
end Go.Proofs.Ytmabfnddedffoaa
/- The errors of a model and a list of formulas, as the elder program has them: walk. -/
namespace Go.Proofs.Ytmabfnddedffoaa
open Go.RowKit
set_option linter.unusedVariables false
set_option linter.unusedSimpArgs false
theorem rows_get {α : Type} {enc : α → Value} {z : α} {w : World} {B b off : Nat} {A : Option Addr} {L : List (List α)} {rv : Nat → Value} {k : Nat} (hA : A = some ⟨b, off, none⟩ ∧ b < B ∨ L.length = 0)
    (hc : ∀ i j, i < L.length → j < 1 → w.cell? ⟨b, off + (i * 1 + j), none⟩ = some (rv i)) (hr : ∀ i, i < L.length → GRow enc z w B (rv i) (L.getD i [])) (hk : k < L.length) :
    A = some ⟨b, off, none⟩ ∧ b < B ∧ ∃ Ax capx, w.cell? ⟨b, off + k, none⟩ = some (.slice Ax (L.getD k []).length capx) ∧ GRow enc z w B (.slice Ax (L.getD k []).length capx) (L.getD k []) := by
  rcases hA with ⟨h1, h2⟩ | h
  · have h3 := hr k hk
    obtain ⟨Ax, capx, hx⟩ := GRow.form h3
    have h4 := hc k 0 hk (by omega)
    rw [Nat.mul_one, Nat.add_zero, hx] at h4
    rw [hx] at h3
    exact ⟨h1, h2, Ax, capx, h4, h3⟩
  · omega
/-- The error of a model and a list of formulas. -/
def frmE (m : Mo) (l : List (List Int)) : Int := if m.err ≠ 0 then m.err else if 200 < l.length then 2 else if l.all (validF m.opts.length) = false then 11 else 0
theorem frm_err {m : Mo} {l : List (List Int)} (h : m.err ≠ 0) : frmE m l = m.err := by unfold frmE; rw [if_pos h]
theorem frm_many {m : Mo} {l : List (List Int)} (h : m.err = 0) (h2 : 200 < l.length) : frmE m l = 2 := by unfold frmE; rw [if_neg (by simp [h]), if_pos h2]
theorem frm_rest {m : Mo} {l : List (List Int)} (h : m.err = 0) (h2 : l.length ≤ 200) : frmE m l = m.errF l := by unfold frmE; rw [if_neg (by simp [h]), if_neg (by omega), Mo.errF_ok h]
theorem frm_ok {m : Mo} {l : List (List Int)} (h : frmE m l = 0) : m.errF l = 0 ∧ l.length ≤ 200 := by
  unfold frmE at h
  split at h
  · rename_i h1; exact absurd h h1
  · rename_i h1
    split at h
    · omega
    · rename_i h2
      refine ⟨?_, by omega⟩
      rw [Mo.errF_ok (by omega)]
      exact h
set_option maxRecDepth 100000 in
set_option maxHeartbeats 4000000 in
theorem rcheckForms_any (m : Mo) (l : List (List Int)) (ov rv lv : Value) (w : World) (hs : SizedM m) (hl : Sized l) (h : MoAt w w.heap.size ov rv m) (hf : Forms w w.heap.size lv l) :
    Calls Try.prog 151 #[.agg #[ov, rv], lv] w fun e w' => e = .returned (.int .i64 (frmE m l)) ∧ Below w.heap.size w w' := by
  obtain ⟨A, cap, hov⟩ := Sl.form h.o
  obtain ⟨Ar, capr, hrv⟩ := h.r.form
  obtain ⟨fvs, ⟨Al, bl, offl, capl, rfl, hncl, hAl, hcl⟩, hfi⟩ := hf
  have H := hide h
  have HS := hide hs
  have HAL := hide hAl
  have HCL := hide hcl
  have HFI := hide hfi
  have HL := hide hl
  subst hov hrv
  clear h hs hAl hcl hfi hl
  go_enter Try.func151, Try.ntmps151
  go_upto_region 1 with (fail)
  generalize hw0 : World.alloc _ _ = w0
  obtain ⟨hb0, hB0, hs0⟩ := alloc1 hw0
  clear hw0
  have HX0 : Hid (MoBox w0 w.heap.size (.slice A m.opts.length cap) (.slice Ar m.rules.length capr)) := hb0
  have HB0 := hide hB0
  have c0 := cellOf hb0 0
  have c1 := cellOf hb0 1
  have hck := rCheckModel_any m (.slice A m.opts.length cap) (.slice Ar m.rules.length capr) w0 HS.out (H.out.up hB0)
  have HCK := hide hck
  clear hb0 hB0 hs0 hck
  by_cases he : m.err = 0
  · have HE := hide he
    clear he
    go_upto_region 4 with (go_at_call 74; refine HCK.out.mono ?_; rw [HE.out]; rintro e w1 ⟨rfl, hB1⟩; have HX1 := hide (box_to HX0.out hB1); have HB1 : Hid (Below w.heap.size w w1) := Below.to HB0.out hB1 (Nat.le_refl _); clear hB1 c0 c1)
    by_cases h200 : (200 : Int) < (l.length : Int)
    · have hee := frm_many HE.out (l := l) (by omega)
      have HEE := hide hee
      clear hee
      go_wp2_with fail
      go_ret
      exact ⟨ret_int HEE.out.symm, HB1.out⟩
    · have hee := frm_rest HE.out (l := l) (by omega)
      rw [Mo.errF_ok HE.out] at hee
      have HEE := hide hee
      clear hee
      go_wp2_with fail
      go_loopw [6] (fun i wr => ∃ t : Nat, t ≤ l.length ∧ i = .int .i64 t ∧ Hid (∀ j, j < t → validF m.opts.length (l.getD j []) = true) ∧ Hid (Below w1.heap.size w1 wr)) (fun i _ => l.length - (intOf i).toNat)
      case atStart => exact ⟨0, Nat.zero_le _, rfl, fun j hj => by omega, Below.refl _ _⟩
      case round =>
        obtain ⟨t, ht, rfl, hva, hBi⟩ := hrel
        have hbx := box_to HX1.out hBi.out
        have x0 := cellOf hbx 0
        have x1 := cellOf hbx 1
        have hsl2 := box_lt hbx
        have hBr := Below.to HB1.out hBi.out (Nat.le_refl _)
        have HBR := hide hBr
        clear hbx
        by_cases htl : t < l.length
        · obtain ⟨rfl, hbb, Af, capf, q0, q1⟩ := rows_get (enc := Value.int .i64) (z := 0) HAL.out HCL.out HFI.out htl
          obtain ⟨f, hfe⟩ : ∃ f, l.getD t [] = f := ⟨_, rfl⟩
          rw [hfe] at q0 q1
          have hfm : f ∈ l := by rw [← hfe]; exact getD_mem htl
          have hfs := HL.out.2 f hfm
          have c0 : wr.cell? ⟨bl, offl + t, none⟩ = some (.slice Af f.length capf) := (hBr.cell (p := ⟨bl, offl + t, none⟩) hbb).trans q0
          have lb : bl < wr.heap.size := Nat.lt_of_lt_of_le hbb hBr.size
          have hvv : ∀ W, Below wr.heap.size wr W → Calls Try.prog 135 #[.slice Af f.length capf, .int .i64 m.opts.length] W fun e w' => e = .returned (.bool (validF m.opts.length f)) ∧ W = w' :=
            fun W hW => rValid_any f m.opts.length _ w.heap.size W hfs (GRow.below (enc := Value.int .i64) (z := 0) q1 (Below.to HBR.out hW (Nat.le_refl _)))
          have it0 : (0 : Int) ≤ (t : Int) := by omega
          have it2 : (t : Int) < (l.length : Int) := by omega
          have HF := hide hfe
          cases hvf : validF m.opts.length f with
          | true =>
            rw [hvf] at hvv
            have HVV := hide hvv
            have HVF := hide hvf
            clear hfm q0 q1 hfe hvv hvf hBr
            go_wp2_with fail
            refine wp_region_held_drew (S := (fun w' => Below wr.heap.size wr w')) (by kernel_rfl) ?_ (fun hHeld => ?_)
            · try dsimp only
              exact (by repeat (first | exact Below.refl _ _ | assumption | refine Below.drew ?_ | refine Below.drewN ?_ _ | refine Below.allocT ?_ (Nat.le_refl _) _ | refine Below.setCell ?_ (by simp <;> omega) _ | refine Below.to ?_ (by assumption) (Nat.le_refl _)))
            refine wpAnyH_take (i := 0) (v := ?v1_0) rfl (by kernel_rfl) (by kernel_rfl) (by kernel_rfl) (fun _ _ _ h => h) (Or.inl ⟨by rfl, ?y1_0⟩) (by assumption) ?r1_0
            case' y1_0 => (intro w hSw; (try dsimp only at hSw); (try have hlS := HLK.out _ hSw); obtain ⟨hcS, hfS⟩ := bcell hSw; clear hSw; go_simp; try with_reducible rfl)
            try simp only [Act.put, zA, zB, zC, zD, zE, zF]
            refine wpAnyH_take (i := 1) (v := ?v1_1) rfl (by kernel_rfl) (by kernel_rfl) (by kernel_rfl) (fun _ _ _ h => h) (Or.inl ⟨by rfl, ?y1_1⟩) (by assumption) ?r1_1
            case' y1_1 => (intro w hSw; (try dsimp only at hSw); (try have hlS := HLK.out _ hSw); obtain ⟨hcS, hfS⟩ := bcell hSw; clear hSw; go_simp; try with_reducible rfl)
            try simp only [Act.put, zA, zB, zC, zD, zE, zF]
            refine wpAnyH_take (i := 2) (v := ?v1_2) rfl (by kernel_rfl) (by kernel_rfl) (by kernel_rfl) (fun _ _ _ h => h) (Or.inl ⟨by rfl, ?y1_2⟩) (by assumption) ?r1_2
            case' y1_2 => (intro w hSw; (try dsimp only at hSw); (try have hlS := HLK.out _ hSw); obtain ⟨hcS, hfS⟩ := bcell hSw; clear hSw; go_simp; try with_reducible rfl)
            try simp only [Act.put, zA, zB, zC, zD, zE, zF]
            refine wpAnyH_take (i := 3) (v := ?v1_3) rfl (by kernel_rfl) (by kernel_rfl) (by kernel_rfl) (fun _ _ _ h => h) (Or.inl ⟨by rfl, ?y1_3⟩) (by assumption) ?r1_3
            case' y1_3 => (intro w hSw; (try dsimp only at hSw); (try have hlS := HLK.out _ hSw); obtain ⟨hcS, hfS⟩ := bcell hSw; clear hSw; go_simp; try with_reducible rfl)
            try simp only [Act.put, zA, zB, zC, zD, zE, zF]
            refine wpAnyH_take (i := 4) (v := ?v1_4) rfl (by kernel_rfl) (by kernel_rfl) (by kernel_rfl) (fun _ _ _ h => h) (Or.inl ⟨by rfl, ?y1_4⟩) (by assumption) ?r1_4
            case' y1_4 => (intro w hSw; (try dsimp only at hSw); (try have hlS := HLK.out _ hSw); obtain ⟨hcS, hfS⟩ := bcell hSw; clear hSw; go_simp; try with_reducible rfl)
            try simp only [Act.put, zA, zB, zC, zD, zE, zF]
            refine wpAnyH_take (i := 5) (v := ?v1_5) rfl (by kernel_rfl) (by kernel_rfl) (by kernel_rfl) (fun _ _ _ h => h) (Or.inl ⟨by rfl, ?y1_5⟩) (by assumption) ?r1_5
            case' y1_5 => (intro w hSw; (try dsimp only at hSw); (try have hlS := HLK.out _ hSw); obtain ⟨hcS, hfS⟩ := bcell hSw; clear hSw; go_simp; try with_reducible rfl)
            try simp only [Act.put, zA, zB, zC, zD, zE, zF]
            refine wpAnyH_take (i := 6) (v := ?v1_6) rfl (by kernel_rfl) (by kernel_rfl) (by kernel_rfl) (fun _ _ _ h => h) (Or.inl ⟨by rfl, ?y1_6⟩) (by assumption) ?r1_6
            case' y1_6 => (intro w hSw; (try dsimp only at hSw); (try have hlS := HLK.out _ hSw); obtain ⟨hcS, hfS⟩ := bcell hSw; clear hSw; go_simp; try with_reducible rfl)
            try simp only [Act.put, zA, zB, zC, zD, zE, zF]
            refine wpAnyH_ready (rs := [7]) (by kernel_rfl) (by simp) ?_
            refine AllReadyH.cons rfl (fun K hK => ?_) AllReadyH.nil
            go_simp
            ((go_at_call 135; refine (HVV.out _ (by repeat (first | exact Below.refl _ _ | assumption | refine Below.drew ?_ | refine Below.drewN ?_ _ | refine Below.allocT ?_ (Nat.le_refl _) _ | refine Below.setCell ?_ (by simp <;> omega) _ | refine Below.to ?_ (by assumption) (Nat.le_refl _)))).mono ?_; rintro e w1 ⟨rfl, rfl⟩))
            (try dsimp only)
            refine hK.out _ _ ?_ (fun hNext => ?_)
            · try dsimp only
              exact (by repeat (first | exact Below.refl _ _ | assumption | refine Below.drew ?_ | refine Below.drewN ?_ _ | refine Below.allocT ?_ (Nat.le_refl _) _ | refine Below.setCell ?_ (by simp <;> omega) _ | refine Below.to ?_ (by assumption) (Nat.le_refl _)))
            clear hK K hHeld
            have hHeld := hNext
            clear hNext
            (try dsimp only at hHeld)
            try simp only [Act.put, zA, zB, zC, zD, zE, zF]
            refine wpAnyH_take (i := 8) (v := ?v1_8) rfl (by kernel_rfl) (by kernel_rfl) (by kernel_rfl) (fun _ _ _ h => h) (Or.inl ⟨by rfl, ?y1_8⟩) (by assumption) ?r1_8
            case' y1_8 => (intro w hSw; (try dsimp only at hSw); (try have hlS := HLK.out _ hSw); obtain ⟨hcS, hfS⟩ := bcell hSw; clear hSw; go_simp; try with_reducible rfl)
            try simp only [Act.put, zA, zB, zC, zD, zE, zF]
            refine wpAnyH_done (by kernel_rfl) ?_ _
            go_wp2_with fail
            go_roundw
            case rel => exact ⟨t + 1, by omega, by go_num, fun j hj => by
                rcases Nat.lt_or_ge j t with h | h
                · exact hva.out j h
                · rw [show j = t from by omega, HF.out]; exact HVF.out, Below.to hBi.out hHeld (Nat.le_refl _)⟩
            case measure => simp [intOf]; omega
          | false =>
            rw [hvf] at hvv
            have HVV := hide hvv
            have hee : frmE m l = 11 := by rw [HEE.out, if_pos (not_valid htl (by rw [hfe]; exact hvf))]
            have HE2 := hide hee
            clear hfm q0 q1 hfe hvv hvf hBr hee
            go_wp2_with fail
            refine wp_region_held_drew (S := (fun w' => Below wr.heap.size wr w')) (by kernel_rfl) ?_ (fun hHeld => ?_)
            · try dsimp only
              exact (by repeat (first | exact Below.refl _ _ | assumption | refine Below.drew ?_ | refine Below.drewN ?_ _ | refine Below.allocT ?_ (Nat.le_refl _) _ | refine Below.setCell ?_ (by simp <;> omega) _ | refine Below.to ?_ (by assumption) (Nat.le_refl _)))
            refine wpAnyH_take (i := 0) (v := ?v2_0) rfl (by kernel_rfl) (by kernel_rfl) (by kernel_rfl) (fun _ _ _ h => h) (Or.inl ⟨by rfl, ?y2_0⟩) (by assumption) ?r2_0
            case' y2_0 => (intro w hSw; (try dsimp only at hSw); (try have hlS := HLK.out _ hSw); obtain ⟨hcS, hfS⟩ := bcell hSw; clear hSw; go_simp; try with_reducible rfl)
            try simp only [Act.put, zA, zB, zC, zD, zE, zF]
            refine wpAnyH_take (i := 1) (v := ?v2_1) rfl (by kernel_rfl) (by kernel_rfl) (by kernel_rfl) (fun _ _ _ h => h) (Or.inl ⟨by rfl, ?y2_1⟩) (by assumption) ?r2_1
            case' y2_1 => (intro w hSw; (try dsimp only at hSw); (try have hlS := HLK.out _ hSw); obtain ⟨hcS, hfS⟩ := bcell hSw; clear hSw; go_simp; try with_reducible rfl)
            try simp only [Act.put, zA, zB, zC, zD, zE, zF]
            refine wpAnyH_take (i := 2) (v := ?v2_2) rfl (by kernel_rfl) (by kernel_rfl) (by kernel_rfl) (fun _ _ _ h => h) (Or.inl ⟨by rfl, ?y2_2⟩) (by assumption) ?r2_2
            case' y2_2 => (intro w hSw; (try dsimp only at hSw); (try have hlS := HLK.out _ hSw); obtain ⟨hcS, hfS⟩ := bcell hSw; clear hSw; go_simp; try with_reducible rfl)
            try simp only [Act.put, zA, zB, zC, zD, zE, zF]
            refine wpAnyH_take (i := 3) (v := ?v2_3) rfl (by kernel_rfl) (by kernel_rfl) (by kernel_rfl) (fun _ _ _ h => h) (Or.inl ⟨by rfl, ?y2_3⟩) (by assumption) ?r2_3
            case' y2_3 => (intro w hSw; (try dsimp only at hSw); (try have hlS := HLK.out _ hSw); obtain ⟨hcS, hfS⟩ := bcell hSw; clear hSw; go_simp; try with_reducible rfl)
            try simp only [Act.put, zA, zB, zC, zD, zE, zF]
            refine wpAnyH_take (i := 4) (v := ?v2_4) rfl (by kernel_rfl) (by kernel_rfl) (by kernel_rfl) (fun _ _ _ h => h) (Or.inl ⟨by rfl, ?y2_4⟩) (by assumption) ?r2_4
            case' y2_4 => (intro w hSw; (try dsimp only at hSw); (try have hlS := HLK.out _ hSw); obtain ⟨hcS, hfS⟩ := bcell hSw; clear hSw; go_simp; try with_reducible rfl)
            try simp only [Act.put, zA, zB, zC, zD, zE, zF]
            refine wpAnyH_take (i := 5) (v := ?v2_5) rfl (by kernel_rfl) (by kernel_rfl) (by kernel_rfl) (fun _ _ _ h => h) (Or.inl ⟨by rfl, ?y2_5⟩) (by assumption) ?r2_5
            case' y2_5 => (intro w hSw; (try dsimp only at hSw); (try have hlS := HLK.out _ hSw); obtain ⟨hcS, hfS⟩ := bcell hSw; clear hSw; go_simp; try with_reducible rfl)
            try simp only [Act.put, zA, zB, zC, zD, zE, zF]
            refine wpAnyH_take (i := 6) (v := ?v2_6) rfl (by kernel_rfl) (by kernel_rfl) (by kernel_rfl) (fun _ _ _ h => h) (Or.inl ⟨by rfl, ?y2_6⟩) (by assumption) ?r2_6
            case' y2_6 => (intro w hSw; (try dsimp only at hSw); (try have hlS := HLK.out _ hSw); obtain ⟨hcS, hfS⟩ := bcell hSw; clear hSw; go_simp; try with_reducible rfl)
            try simp only [Act.put, zA, zB, zC, zD, zE, zF]
            refine wpAnyH_ready (rs := [7]) (by kernel_rfl) (by simp) ?_
            refine AllReadyH.cons rfl (fun K hK => ?_) AllReadyH.nil
            go_simp
            ((go_at_call 135; refine (HVV.out _ (by repeat (first | exact Below.refl _ _ | assumption | refine Below.drew ?_ | refine Below.drewN ?_ _ | refine Below.allocT ?_ (Nat.le_refl _) _ | refine Below.setCell ?_ (by simp <;> omega) _ | refine Below.to ?_ (by assumption) (Nat.le_refl _)))).mono ?_; rintro e w1 ⟨rfl, rfl⟩))
            (try dsimp only)
            refine hK.out _ _ ?_ (fun hNext => ?_)
            · try dsimp only
              exact (by repeat (first | exact Below.refl _ _ | assumption | refine Below.drew ?_ | refine Below.drewN ?_ _ | refine Below.allocT ?_ (Nat.le_refl _) _ | refine Below.setCell ?_ (by simp <;> omega) _ | refine Below.to ?_ (by assumption) (Nat.le_refl _)))
            clear hK K hHeld
            have hHeld := hNext
            clear hNext
            (try dsimp only at hHeld)
            try simp only [Act.put, zA, zB, zC, zD, zE, zF]
            refine wpAnyH_take (i := 8) (v := ?v2_8) rfl (by kernel_rfl) (by kernel_rfl) (by kernel_rfl) (fun _ _ _ h => h) (Or.inl ⟨by rfl, ?y2_8⟩) (by assumption) ?r2_8
            case' y2_8 => (intro w hSw; (try dsimp only at hSw); (try have hlS := HLK.out _ hSw); obtain ⟨hcS, hfS⟩ := bcell hSw; clear hSw; go_simp; try with_reducible rfl)
            try simp only [Act.put, zA, zB, zC, zD, zE, zF]
            refine wpAnyH_done (by kernel_rfl) ?_ _
            go_wp2_with fail
            go_ret
            exact ⟨ret_int HE2.out.symm, Below.to HBR.out hHeld (Nat.le_refl _)⟩
        · have hee : frmE m l = 0 := by rw [HEE.out, if_neg (by rw [all_valid fun j hj => hva.out j (by omega)]; simp)]
          have HE2 := hide hee
          clear hee hBr
          go_wp2_with fail
          go_ret
          exact ⟨ret_int HE2.out.symm, HBR.out⟩
  · have hee := frm_err (l := l) he
    obtain ⟨z, hz⟩ : ∃ z, m.err = z := ⟨_, rfl⟩
    rw [hz] at he hee
    have hz1 : (z != 0) = true := by simpa using he
    have HZ := hide hz
    have HEE := hide hee
    clear he hz hee
    go_wp2_with (go_at_call 74; refine HCK.out.mono ?_; rw [HZ.out]; rintro e w1 ⟨rfl, hB1⟩)
    go_ret
    exact ⟨ret_int HEE.out.symm, Below.to HB0.out hB1 (Nat.le_refl _)⟩
end Go.Proofs.Ytmabfnddedffoaa
/- The first variant of the greatest sum, found by going through all. Plain laws. -/
namespace Go.Proofs.Ytmabfnddedffoaa
set_option linter.unusedVariables false
theorem fsum_snoc (v : Nat → Bool) : ∀ (l : List (List Int)) (ws : List Int) (k : Nat), l.length = ws.length → k < l.length → fsum v (l.take (k + 1)) ws = fsum v (l.take k) ws + if evF1 v (l.getD k []) then ws.getD k 0 else 0
  | [], ws, k, _, h => by simp at h
  | f :: l, [], k, h, _ => by simp at h
  | f :: l, x :: ws, 0, _, _ => by simp [fsum]
  | f :: l, x :: ws, k + 1, h, hk => by
    have ih := fsum_snoc v l ws k (by simpa using h) (by simpa using hk)
    simp only [List.take_succ_cons, fsum, List.getD_cons_succ]
    rw [ih]
    omega
/-- What has been found of the greatest sum when k variants have been gone through. -/
def FirstMax (vals : Nat → Int) (k : Nat) (best at_ : Int) : Prop :=
  (k = 0 ∧ best = 0 ∧ at_ = -1) ∨ ∃ a : Nat, at_ = a ∧ a < k ∧ vals a = best ∧ (∀ j, j < k → vals j ≤ best) ∧ ∀ j, j < a → vals j < best
theorem FirstMax.start (vals : Nat → Int) : FirstMax vals 0 0 (-1) := .inl ⟨rfl, rfl, rfl⟩
theorem FirstMax.take {vals : Nat → Int} {k : Nat} {best at_ : Int} (h : FirstMax vals k best at_) (hb : at_ < 0 ∨ best < vals k) : FirstMax vals (k + 1) (vals k) k := by
  have hlt : ∀ j, j < k → vals j < vals k := fun j hj => by
    rcases h with ⟨h1, h2, h3⟩ | ⟨a, h1, h2, h3, h4, h5⟩
    · omega
    · rcases hb with hb | hb
      · omega
      · have := h4 j hj
        omega
  refine .inr ⟨k, rfl, by omega, rfl, fun j hj => ?_, hlt⟩
  by_cases hjk : j = k
  · rw [hjk]; exact Int.le_refl _
  · have := hlt j (by omega)
    omega
theorem FirstMax.keep {vals : Nat → Int} {k : Nat} {best at_ : Int} (h : FirstMax vals k best at_) (h0 : 0 ≤ at_) (hb : vals k ≤ best) : FirstMax vals (k + 1) best at_ := by
  rcases h with ⟨h1, h2, h3⟩ | ⟨a, h1, h2, h3, h4, h5⟩
  · omega
  · exact .inr ⟨a, h1, by omega, h3, fun j hj => by
      by_cases hjk : j = k
      · subst hjk; exact hb
      · exact h4 j (by omega), h5⟩
theorem find_filter {α : Type} (l : List α) (q p : α → Bool) (h : ∀ x, p x = true → q x = true) : (l.filter q).find? p = l.find? p := by
  rw [List.find?_filter]
  congr 1
  funext x
  cases hp : p x
  · simp
  · simp [h x hp]
theorem find_first {α : Type} (z : α) (p : α → Bool) : ∀ (l : List α) (a : Nat), a < l.length → p (l.getD a z) = true → (∀ j, j < a → p (l.getD j z) = false) → l.find? p = some (l.getD a z)
  | [], a, h, _, _ => by simp at h
  | x :: l, 0, _, h, _ => by
    have h' : p x = true := by simpa using h
    simp [h']
  | x :: l, a + 1, hl, h, hj => by
    have h0 : p x = false := by simpa using hj 0 (by omega)
    have ih := find_first z p l a (by simpa using hl) (by simpa using h) (fun j hja => by have := hj (j + 1) (by omega); simpa using this)
    simp only [List.find?_cons, h0, List.getD_cons_succ]
    exact ih
theorem most_first {m : Mo} {l : List (List Int)} {ws : List Int} {best at_ : Int} (hw : ∀ x ∈ ws, -1000000 ≤ x ∧ x ≤ 1000000) (hl : l.length ≤ 1000) (h0 : allM m ≠ []) (h : FirstMax (fun j => fsum (vf ((allM m).getD j [])) l ws) (allM m).length best at_) :
    bestF m l ws = best ∧ ∃ a : Nat, at_ = a ∧ a < (allM m).length ∧ (exts m.opts.length []).find? (fun y => valF m l ws y == bestF m l ws) = some ((allM m).getD a []) := by
  have hbig := bestF_big hw hl (by rw [satM_true]; exact h0)
  rcases h with ⟨h1, _⟩ | ⟨a, h1, h2, h3, h4, h5⟩
  · exact absurd (List.length_eq_zero_iff.1 h1) h0
  · have hmem : ∀ j, j < (allM m).length → (allM m).getD j [] ∈ exts m.opts.length [] ∧ allF (vf ((allM m).getD j [])) m.rules = true := fun j hj => by
      have := getD_mem (z := []) hj
      unfold allM at this ⊢
      rw [List.mem_filter] at this
      exact this
    have hval : ∀ j, j < (allM m).length → valF m l ws ((allM m).getD j []) = fsum (vf ((allM m).getD j [])) l ws := fun j hj => by
      unfold valF
      rw [if_pos (hmem j hj).2]
    have hle : best ≤ bestF m l ws := by
      unfold bestF
      refine maxL_mem _ _ (List.mem_map.2 ⟨(allM m).getD a [], (hmem a h2).1, ?_⟩)
      rw [hval a h2]
      exact h3
    have hge : bestF m l ws ≤ best := by
      have h6 := maxL_attained _ hbig
      rw [List.mem_map] at h6
      obtain ⟨y, hy, hye⟩ := h6
      have hal : allF (vf y) m.rules = true := by
        cases hf : allF (vf y) m.rules with
        | true => rfl
        | false =>
          have h8 : valF m l ws y = leastI := by unfold valF; rw [if_neg (by simp [hf])]
          have h9 : bestF m l ws = leastI := hye.symm.trans h8
          omega
      have hyM : y ∈ allM m := by
        unfold allM
        rw [List.mem_filter]
        exact ⟨hy, hal⟩
      obtain ⟨j, hj, hje⟩ := List.getElem_of_mem hyM
      have hgd : (allM m).getD j [] = y := by rw [List.getD_eq_getElem?_getD, List.getElem?_eq_getElem hj, Option.getD_some, hje]
      have h7 : fsum (vf ((allM m).getD j [])) l ws ≤ best := h4 j hj
      have h8 := hval j hj
      rw [hgd] at h7 h8
      show maxL _ ≤ best
      rw [← hye, h8]
      exact h7
    have hbe : bestF m l ws = best := Int.le_antisymm hge hle
    refine ⟨hbe, a, h1, h2, ?_⟩
    have hp : ∀ y, (valF m l ws y == bestF m l ws) = true → allF (vf y) m.rules = true := fun y hy => by
      cases hf : allF (vf y) m.rules with
      | true => rfl
      | false =>
        unfold valF at hy
        rw [if_neg (by simp [hf])] at hy
        simp at hy
        omega
    rw [← find_filter (exts m.opts.length []) (fun x => allF (vf x) m.rules) _ hp]
    refine find_first [] _ (allM m) a h2 ?_ fun j hj => ?_
    · rw [hval a h2, hbe]
      simpa using h3
    · rw [hval j (by omega), hbe]
      have h9 : fsum (vf ((allM m).getD j [])) l ws < best := h5 j hj
      rw [beq_eq_false_iff_ne]
      omega
end Go.Proofs.Ytmabfnddedffoaa

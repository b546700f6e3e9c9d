/- Part 9 of this claim's texts: walks and plain laws. -/
import Derived.Test.YtehadoecnmfeoaaGreatRows
import Derived.Test.YtehadoecnmfeoaaGreatGBS8
import Derived.Test.YtehadoecnmfeoaaGreatGBS1
import Derived.Laws.MakeOwn
import Derived.ProofKit
import Derived.Lib.SmallJoins
import Derived.Deep.Slices
import Derived.Deep.Fields
import Derived.ChangeSame
import Derived.Below
set_option linter.unusedVariables false
set_option linter.unusedSimpArgs false
set_option linter.unusedSectionVars false
namespace Go.Proofs.YtehadoecnmfeoaaGreat
open Go.RowKit
open Go.Maps (Keyed)
def tminK (ks : List Kn) (N : Nat) (l : List Nat) : Nat := l.foldl (fun t n => min t (topK ks n)) N
theorem tminK_snoc (ks : List Kn) (N : Nat) (l : List Nat) (n : Nat) : tminK ks N (l ++ [n]) = min (tminK ks N l) (topK ks n) := by simp [tminK]
theorem tminK_le (ks : List Kn) : ∀ (l : List Nat) (N : Nat), tminK ks N l ≤ N ∧ ∀ n ∈ l, tminK ks N l ≤ topK ks n
 | [], N => ⟨Nat.le_refl _, fun n hn => by cases hn⟩
 | a :: l, N => by
  obtain ⟨h1, h2⟩ := tminK_le ks l (min N (topK ks a))
  have e : tminK ks N (a :: l) = tminK ks (min N (topK ks a)) l := rfl
  rw [e]
  refine ⟨by omega, fun n hn => ?_⟩
  rcases List.mem_cons.1 hn with rfl | hn
  ·
   omega
  ·
   exact h2 n hn
theorem wyes_snoc : ∀ (a : List Nat) (n : Nat) (ws : List Int), a.length < ws.length → wyes (a ++ [n]) ws = wyes a ws + if n = 1 then ws.getD a.length 0 else 0
 | [], n, w :: ws, _ => by cases ws <;> simp [wyes]
 | x :: a, n, w :: ws, h => by
  have := wyes_snoc a n ws (by simpa using h)
  simp only [List.cons_append, wyes, this, List.length_cons, List.getD_cons_succ]
  omega
 | [], n, [], h => by simp at h
 | x :: a, n, [], h => by simp at h
def sumP (l : List Nat) (ws : List Int) : Int := wyes (l.drop 1) ws
theorem sumP_snoc {l : List Nat} {n : Nat} {ws : List Int} (hl : l.length ≤ ws.length) : sumP (l ++ [n]) ws = sumP l ws + if 0 < l.length ∧ n = 1 then ws.getD (l.length - 1) 0 else 0 := by
 unfold sumP
 match l with
 | [] => simp [wyes]
 | x :: l =>
  simp only [List.cons_append, List.drop_succ_cons, List.drop_zero, List.length_cons]
  rw [wyes_snoc l n ws (by simp at hl; omega)]
  by_cases h : n = 1 <;> simp [h]
theorem wyes_bd : ∀ (a : List Nat) (ws : List Int), (∀ x ∈ ws, -1000000 ≤ x ∧ x ≤ 1000000) → -1000000 * (a.length : Int) ≤ wyes a ws ∧ wyes a ws ≤ 1000000 * (a.length : Int)
 | [], ws, _ => by cases ws <;> simp [wyes]
 | n :: a, [], _ => by simp [wyes]; omega
 | n :: a, x :: ws, h => by
  have h1 := wyes_bd a ws fun y hy => h y (by simp [hy])
  have h2 := h x (by simp)
  simp only [wyes, List.length_cons]
  split <;> omega
theorem wsum_bd (ks : List Kn) (v : Nat → Bool) : ∀ (a : List Nat) (ws : List Int), (∀ x ∈ ws, -1000000 ≤ x ∧ x ≤ 1000000) → -1000000 * (a.length : Int) ≤ wsum ks v a ws ∧ wsum ks v a ws ≤ 1000000 * (a.length : Int)
 | [], ws, _ => by cases ws <;> simp [wsum]
 | n :: a, [], _ => by simp [wsum]; omega
 | n :: a, x :: ws, h => by
  have h1 := wsum_bd ks v a ws fun y hy => h y (by simp [hy])
  have h2 := h x (by simp)
  simp only [wsum, List.length_cons]
  split <;> omega
theorem bestK_bd {ks : List Kn} {N : Nat} {nodes : List Nat} {ws : List Int} (hw : ∀ x ∈ ws, -1000000 ≤ x ∧ x ≤ 1000000) (hn : nodes.length ≤ 1000) (l : List Bool) : leastI ≤ bestK ks N nodes ws l ∧ bestK ks N nodes ws l ≤ 1000000000 := by
 refine ⟨maxL_least _, ?_⟩
 rcases (by have := maxL_least ((exts (N - l.length) l).map fun x => valI ks (vf x) nodes ws); omega : maxL ((exts (N - l.length) l).map fun x => valI ks (vf x) nodes ws) = leastI ∨ leastI < maxL ((exts (N - l.length) l).map fun x => valI ks (vf x) nodes ws)) with h | h
 ·
  unfold bestK; rw [h]; unfold leastI; omega
 ·
  have := maxL_attained _ h
  rw [List.mem_map] at this
  obtain ⟨x, _, hx⟩ := this
  unfold bestK
  rw [← hx]
  unfold valI
  split
  ·
   unfold leastI; omega
  ·
   rename_i n ns
   have := wsum_bd ks (vf x) ns ws hw
   simp only [List.length_cons] at hn
   split
   ·
    omega
   ·
    unfold leastI; omega
structure BstR (F : Fo) (wp : Nat) (wsv : Value) (ws : List Int) (kb d : Nat) (w : World) (cnt : Nat) (w' : World) (m' : SmL → Option Int) (cnt' : Nat) : Prop where
 keep : Keeps (fun k => k = kb) w w'
 here : WgAt w' F wp wsv ws kb cnt' m'
 cnt : cnt' + 1 ≤ cnt + 2 ^ (d + 1)
theorem BstR.cells {F : Fo} {wp : Nat} {wsv : Value} {ws : List Int} {kb d : Nat} {w : World} {cnt : Nat} {w' : World} {m m' : SmL → Option Int} {cnt' : Nat} (r : BstR F wp wsv ws kb d w cnt w' m' cnt') (h : WgAt w F wp wsv ws kb cnt m) : ∀ b o, b < w.heap.size → w'.cell? ⟨b, o, none⟩ = w.cell? ⟨b, o, none⟩ := keepsMap r.keep h.map r.here.map
set_option maxRecDepth 100000 in
theorem bestNo_any (wp : Nat) (ns : List Nat) (v : Value) (w : World) (hn : Nods w w.heap.size v (0 :: ns)) :
  Calls Tryz.prog 196 #[.pointer (some ⟨wp, 0, none⟩), v] w fun e w' => e = .returned (.int .i64 leastI) ∧ w = w' := by
 obtain ⟨A, b0, off, cap, rfl, hnc, hA, hc⟩ := hn
 obtain ⟨rfl, hbb⟩ : A = some ⟨b0, off, none⟩ ∧ b0 < w.heap.size := by
  rcases hA with h | h
  ·
   exact h
  ·
   simp at h
 have c0 := hc 0 0 (by simp) (by omega)
 simp only [Nat.zero_mul, Nat.add_zero, List.getD_cons_zero] at c0
 have hlen : 0 < (0 :: ns).length := by simp
 have hlen2 : (0 : Int) < ((0 :: ns).length : Int) := by omega
 obtain ⟨n, hn⟩ : ∃ n, (0 :: ns).length = n := ⟨_, rfl⟩
 rw [hn] at hlen hlen2 ⊢
 clear hc hA hnc hn
 go_enter Tryz.func196, Tryz.ntmps196
 go_wp2_with fail
 go_ret
 exact ⟨rfl, rfl⟩
theorem tminK_ge {ks : List Kn} {t : Nat} : ∀ (l : List Nat) (N : Nat), t ≤ N → (∀ n ∈ l, t ≤ topK ks n) → t ≤ tminK ks N l
 | [], N, h, _ => h
 | a :: l, N, h, h2 => tminK_ge l (min N (topK ks a)) (by have := h2 a (by simp); omega) fun n hn => h2 n (by simp [hn])
theorem min_val {a b : Nat} : Value.int .i64 (if b < a then (b : Int) else (a : Int)) = .int .i64 ((min a b : Nat) : Int) := by
 split
 ·
  congr 1; omega
 ·
  congr 1; omega
set_option maxRecDepth 100000 in
set_option maxHeartbeats 8000000 in
theorem best_any (F : Fo) (wp : Nat) (wsv : Value) (ws : List Int) (kb : Nat) (hw : ∀ x ∈ ws, -1000000 ≤ x ∧ x ≤ 1000000) (hws : ws.length ≤ 900) : ∀ (d : Nat) (nodes : List Nat) (v : Value) (w : World) (m : SmL → Option Int) (cnt : Nat), WgAt w F wp wsv ws kb cnt m → nodes.length = ws.length + 1 → (∀ n ∈ nodes, n < F.ks.length) → F.N - tminK F.ks F.N nodes ≤ d → Nods w w.heap.size v nodes → cnt + 2 ^ (d + 1) ≤ 1073741824 →
  Calls Tryz.prog 196 #[.pointer (some ⟨wp, 0, none⟩), v] w
   fun e w' => ∃ m' cnt', e = .returned (.int .i64 (bestK F.ks F.N nodes ws [])) ∧ BstR F wp wsv ws kb d w cnt w' m' cnt' := by
 intro d
 induction d using Nat.strongRecOn with
 | ind d ih =>
 intro nodes v w m cnt h hlen hlt hd hn hc
 have hpp := pow_pos2 (d + 1)
 obtain ⟨n0, ns, rfl⟩ : ∃ n0 ns, nodes = n0 :: ns := by
  match nodes, hlen with
  | [], hlen => simp at hlen
  | n0 :: ns, _ => exact ⟨n0, ns, rfl⟩
 by_cases h0 : n0 = 0
 ·
  subst h0
  refine (bestNo_any wp ns v w hn).mono ?_
  rintro e w' ⟨rfl, rfl⟩
  exact ⟨m, cnt, by rw [bestK_no], ⟨Keeps.refl _ _, h, by omega⟩⟩
 have h01 : ((n0 : Int) == 0) = false := by simp; omega
 have hn' := hn
 obtain ⟨A, b0, off, cap, rfl, hnc, hA, hcell⟩ := hn'
 obtain ⟨rfl, hbb⟩ : A = some ⟨b0, off, none⟩ ∧ b0 < w.heap.size := by
  rcases hA with h | h
  ·
   exact h
  ·
   simp at h
 have c0 := hcell 0 0 (by simp) (by omega)
 simp only [Nat.zero_mul, Nat.add_zero, List.getD_cons_zero] at c0
 obtain ⟨nodes, hnd⟩ : ∃ nodes, n0 :: ns = nodes := ⟨_, rfl⟩
 have hn0 : nodes.getD 0 0 = n0 := by rw [← hnd]; rfl
 rw [hnd] at hlen hlt hd hn hnc hcell ⊢
 have hl0 : 0 < nodes.length := by omega
 have hl1 : (0 : Int) < (nodes.length : Int) := by omega
 have hl2 : (nodes.length : Int) ≤ 1000 := by omega
 have e0 := cellOf h.box 0
 have e1 := cellOf h.box 1
 have e2 := cellOf h.box 2
 have d0 := h.fo.cellN
 have d1 := h.fo.cellS
 have hsm := h.fo.small
 obtain ⟨Aw, bw, offw, capw, rfl, hncw, hAw, hcw⟩ := h.wts
 have H := hide h
 have HN := hide hn
 have HC := hide hcell
 have HLT := hide hlt
 have HAW := hide hAw
 have HCW := hide hcw
 have HW := hide hw
 have HIH := hide ih
 have HD : Hid (F.N - tminK F.ks F.N nodes ≤ d ∧ cnt + 2 ^ (d + 1) ≤ 1073741824) := ⟨hd, hc⟩
 have HND : Hid (n0 :: ns = nodes ∧ nodes.getD 0 0 = n0 ∧ n0 ≠ 0) := ⟨hnd, hn0, h0⟩
 have HLEN : Hid (nodes.length = ws.length + 1) := hlen
 clear h hn hcell hlt hAw hcw hw ih hd hc hnd hn0 h0 hA hlen hpp
 go_enter Tryz.func196, Tryz.ntmps196
 go_wp2_with fail
 go_loop [5, 6, 26] (fun t s i => ∃ k : Nat, k ≤ nodes.length ∧ i = .int .i64 k ∧ t = .int .i64 (tminK F.ks F.N (nodes.take k) : Nat) ∧ s = .int .i64 (sumP (nodes.take k) ws)) (fun _ _ i => nodes.length - (intOf i).toNat)
 case atStart => exact ⟨0, Nat.zero_le _, rfl, rfl, rfl⟩
 case round =>
  obtain ⟨k, hk, rfl, rfl, rfl⟩ := hrel
  by_cases hkl : k < nodes.length
  ·
   obtain ⟨x, hx⟩ : ∃ x, nodes.getD k 0 = x := ⟨_, rfl⟩
   have hxl : x < F.ks.length := HLT.out x (by rw [← hx]; exact getD_mem hkl)
   have c1 : w.cell? ⟨b0, off + k, none⟩ = some (.int .i64 (x : Nat)) := by
    have h1 := HC.out k 0 hkl (by omega)
    rwa [Nat.mul_one, Nat.add_zero, hx] at h1
   obtain ⟨k0, _, _⟩ := H.out.fo.knot hxl
   have hx0 : (0 : Int) ≤ (x : Int) := by omega
   have hx1 : (x : Int) < (F.ks.length : Int) := by omega
   have hts := tminK_snoc F.ks F.N (nodes.take k) x
   have hss := sumP_snoc (l := nodes.take k) (n := x) (ws := ws) (by have := HLEN.out; simp; omega)
   rw [← hx, ← take_getD hkl, hx] at hts hss
   have hlk : (nodes.take k).length = k := by simp; omega
   rw [hlk] at hss
   obtain ⟨t, ht⟩ : ∃ t, tminK F.ks F.N (nodes.take k) = t := ⟨_, rfl⟩
   obtain ⟨s, hs⟩ : ∃ s, sumP (nodes.take k) ws = s := ⟨_, rfl⟩
   have hsb := wyes_bd ((nodes.take k).drop 1) ws HW.out
   have hsb2 : -1000000000 ≤ s ∧ s ≤ 1000000000 := by
    rw [← hs]
    unfold sumP
    have : ((nodes.take k).drop 1).length ≤ 1000 := by simp; omega
    omega
   obtain ⟨hs1, hs2⟩ := hsb2
   rw [ht] at hts ⊢
   rw [hs] at hss ⊢
   have HTS := hide hts
   have HSS := hide hss
   have HX0 := hide hx
   clear hts hss hlk ht hs hsb hx
   by_cases hk0 : k = 0
   ·
    subst hk0
    obtain rfl : n0 = x := HND.out.2.1.symm.trans HX0.out
    have hf : ¬ (0 : Int) < ((0 : Nat) : Int) := by omega
    go_wp2_with fail
    go_round
    case rel => exact ⟨1, by omega, rfl, by rw [HTS.out]; exact min_val, by rw [HSS.out, if_neg (by omega)]; simp⟩
    case measure => simp [intOf]; omega
   ·
    have hf : (0 : Int) < (k : Int) := by omega
    by_cases hx1' : x = 1
    ·
     have hxe : ((x : Int) == 1) = true := by simp [hx1']
     have hkw : k - 1 < ws.length := by have := HLEN.out; omega
     obtain ⟨y, hy⟩ : ∃ y, ws.getD (k - 1) 0 = y := ⟨_, rfl⟩
     have hyb := HW.out y (by rw [← hy]; exact getD_mem hkw)
     obtain ⟨rfl, hbw⟩ : Aw = some ⟨bw, offw, none⟩ ∧ bw < w.heap.size := by
      rcases HAW.out with h | h
      ·
       exact h
      ·
       omega
     have g0 : w.cell? ⟨bw, offw + (k - 1), none⟩ = some (.int .i64 y) := by
      have h1 := HCW.out (k - 1) 0 hkw (by omega)
      rwa [Nat.mul_one, Nat.add_zero, hy] at h1
     have j0 : (1 : Int) ≤ (k : Int) := by omega
     have j1 : ((k : Int) - 1).toNat = k - 1 := by omega
     have j2 : (k : Int) - 1 < (ws.length : Int) := by omega
     obtain ⟨hy1, hy2⟩ := hyb
     have HX := hide hx1'
     have HY := hide hy
     have HK := hide hk0
     clear hx1' hy hk0 hkw
     go_wp2_with fail
     go_round
     case rel => exact ⟨k + 1, by omega, by go_num, by rw [HTS.out]; exact min_val, by rw [HSS.out, if_pos ⟨by have := HK.out; omega, HX.out⟩, HY.out]⟩
     case measure => simp [intOf]; omega
    ·
     have hxe : ((x : Int) == 1) = false := by simp; omega
     have HX := hide hx1'
     clear hx1' hk0
     go_wp2_with fail
     go_round
     case rel => exact ⟨k + 1, by omega, by go_num, by rw [HTS.out]; exact min_val, by rw [HSS.out, if_neg (fun e => HX.out e.2)]; simp⟩
     case measure => simp [intOf]; omega
  ·
   obtain rfl : k = nodes.length := by omega
   rw [List.take_length]
   obtain ⟨hml, hmle⟩ := tminK_le F.ks nodes F.N
   obtain ⟨t, ht⟩ : ∃ t, tminK F.ks F.N nodes = t := ⟨_, rfl⟩
   have hsb := wyes_bd (nodes.drop 1) ws HW.out
   have hsb2 : ((nodes.drop 1).length : Int) ≤ 1000 := by simp; omega
   rw [ht] at hml hmle ⊢
   by_cases htN : t = F.N
   ·
    have hends : ∀ n ∈ nodes, n < 2 := fun n hn => by
     rcases Nat.lt_or_ge n 2 with h2 | h2
     ·
      exact h2
     ·
      have := H.out.fo.wf.opt n h2 (HLT.out n hn)
      have := hmle n hn
      omega
    have hb1 : bestK F.ks F.N nodes ws [] = sumP nodes ws := by
     obtain ⟨q1, q2, q3⟩ := HND.out
     have : n0 = 1 := by have := hends n0 (by rw [← q1]; simp); omega
     rw [← q1, this]
     have h5 : sumP (1 :: ns) ws = wyes ns ws := rfl
     rw [h5]
     refine bestK_ends [] (fun n hn => hends n (by rw [← q1]; simp [hn])) ?_
     have h6 : nodes.drop 1 = ns := by rw [← q1]; rfl
     rw [h6] at hsb hsb2
     unfold leastI
     omega
    have hte : ((t : Int) == (F.N : Int)) = true := by simp [htN]
    have HB1 := hide hb1
    have hpp := pow_pos2 (d + 1)
    have HPP := hide hpp
    clear htN hends hb1 hsb hsb2 ht hml hmle hpp
    go_wp2_with fail
    go_ret
    exact ⟨ret_int HB1.out.symm, m, cnt, ⟨Keeps.refl _ _, H.out, by have := HPP.out; omega⟩⟩
   ·
    have htN2 : t < F.N := by omega
    have hte : ((t : Int) == (F.N : Int)) = false := by simp; omega
    have hsm30 : ∀ n ∈ nodes, n < 1073741824 := fun n hn => by have := HLT.out n hn; omega
    have hkey := key_any nodes (.slice (some ⟨b0, off, none⟩) nodes.length cap) w.heap.size w (by omega) hsm30 HN.out (Nat.le_refl _)
    have HKEY := hide hkey
    obtain ⟨s, hs⟩ : ∃ s, sumP nodes ws = s := ⟨_, rfl⟩
    rw [hs]
    have HS30 := hide hsm30
    have HT := hide ht
    have HMLE := hide hmle
    obtain ⟨kl, hkl⟩ := enSKey (a := ⟨nodes, HS30.out⟩) (by show nodes.length ≤ 1000; omega)
    have HKL := hide hkl
    clear htN hsb hsb2 ht hml hmle hkey hs hsm30 hkl
    cases hmx : m ⟨nodes, HS30.out⟩ with
    | some x =>
     have hxe : x = bestK F.ks F.N nodes ws [] := H.out.ok _ _ hmx
     have HXE := hide hxe
     have HMX := hide hmx
     have hpp := pow_pos2 (d + 1)
     have HPP := hide hpp
     clear hxe hmx hpp
     go_wp2_with (go_at_call 241; refine HKEY.out.mono ?_; rintro e w1 ⟨rfl, hB1⟩; have HB1 := hide hB1; have hwg := H.out.below hB1; have HWG := hide hwg; have f0 := cellOf hwg.box 0; have f1 := cellOf hwg.box 1; have f2 := cellOf hwg.box 2; have hlk : (Instr.lookup 236 (.map (some kb)) (.string (kyS nodes)) true).run Tryz.prog w1 = .ok (.tuple #[.int .i64 x, .bool true]) w1 := (by have h1 := hwg.map.look stLaw Tryz.underlying236 Tryz.underlying3 (zInt w1) HKL.out; rw [HMX.out] at h1; exact h1); clear hB1 hwg)
     go_ret
     first | exact ⟨ret_int HXE.out, m, cnt, ⟨Keeps.of_below HB1.out, HWG.out, by have := HPP.out; omega⟩⟩ | exact ⟨m, cnt, ret_int HXE.out, ⟨Keeps.of_below HB1.out, HWG.out, by have := HPP.out; omega⟩⟩
    | none =>
     have HMX := hide hmx
     clear hmx
     have hd1 : 1 ≤ d := by have := HD.out.1; have := HT.out; omega
     have hp2 : 2 ^ (d + 1) = 2 ^ (d - 1 + 1) + 2 ^ (d - 1 + 1) := by rw [show d - 1 + 1 = d by omega, Nat.pow_succ]; omega
     have HP2 := hide hp2
     have hsl : ∀ b, ∀ n ∈ nodes.map (fun n => brK F.ks n t b), n < F.ks.length := fun b n hn => by
      rw [List.mem_map] at hn
      obtain ⟨x, hx, rfl⟩ := hn
      exact brK_lt H.out.fo.wf (HLT.out x hx) htN2
     have hst : ∀ b, F.N - tminK F.ks F.N (nodes.map fun n => brK F.ks n t b) ≤ d - 1 := fun b => by
      have h1 : t + 1 ≤ tminK F.ks F.N (nodes.map fun n => brK F.ks n t b) := tminK_ge _ _ (by omega) fun n hn => by
       rw [List.mem_map] at hn
       obtain ⟨x, hx, rfl⟩ := hn
       exact brK_top H.out.fo.wf (HLT.out x hx) htN2 (HMLE.out x hx)
      have h2 := HD.out.1
      rw [HT.out] at h2
      omega
     have hbs := bestK_step H.out.fo.wf (ws := ws) HLT.out htN2 HMLE.out
     have hba := bestK_bd (ks := F.ks) (N := F.N) (nodes := nodes.map fun n => brK F.ks n t false) HW.out (by simp; omega) []
     have hbb2 := bestK_bd (ks := F.ks) (N := F.N) (nodes := nodes.map fun n => brK F.ks n t true) HW.out (by simp; omega) []
     obtain ⟨a, ha⟩ : ∃ a, bestK F.ks F.N (nodes.map fun n => brK F.ks n t false) ws [] = a := ⟨_, rfl⟩
     obtain ⟨b, hb⟩ : ∃ b, bestK F.ks F.N (nodes.map fun n => brK F.ks n t true) ws [] = b := ⟨_, rfl⟩
     rw [ha] at hbs hba
     rw [hb] at hbs hbb2
     unfold leastI at hba hbb2
     have hwf : (Lit.int .i64 a).wf = true ∧ (Lit.int .i64 b).wf = true := ⟨wf63 (by unfold I63; omega), wf63 (by unfold I63; omega)⟩
     have HSL := hide hsl
     have HST := hide hst
     have HBS := hide hbs
     have HAB := hide (And.intro ha hb)
     have HWF := hide hwf
     clear hp2 hsl hst hbs hba hbb2 ha hb hwf
     go_wp2_with (go_at_call 241; refine HKEY.out.mono ?_; rintro e w1 ⟨rfl, hB1⟩; have HB1 := hide hB1; have hwg := H.out.below hB1; have HWG := hide hwg; have f0 := cellOf hwg.box 0; have f1 := cellOf hwg.box 1; have f2 := cellOf hwg.box 2; have hlk : (Instr.lookup 236 (.map (some kb)) (.string (kyS nodes)) true).run Tryz.prog w1 = .ok (.tuple #[.int .i64 0, .bool false]) w1 := (by have h1 := hwg.map.look stLaw Tryz.underlying236 Tryz.underlying3 (zInt w1) HKL.out; rw [HMX.out] at h1; exact h1); clear hB1 hwg)
     have hN1 : Nods w1 w1.heap.size (.slice (some ⟨b0, off, none⟩) nodes.length cap) nodes := HN.out.up HB1.out
     have HN1 := hide hN1
     clear hN1 hlk f0 f1 f2
     refine (step_any F wp _ ws kb cnt m nodes t false _ w1 HWG.out (by omega) HLT.out HN1.out).mono ?_
     rintro e w2 ⟨v2, rfl, hn2, hB2⟩
     obtain ⟨A2, cap2, rfl⟩ := Sl.form hn2
     rw [List.length_map] at hn2 ⊢
     have hwg2 := HWG.out.below hB2
     have HB2 := hide hB2
     have HWG2 := hide hwg2
     have HN2 : Hid (Nods w2 w2.heap.size (.slice (some ⟨b0, off, none⟩) nodes.length cap) nodes) := HN1.out.up hB2
     have hbe := HIH.out (d - 1) (by omega) (nodes.map fun n => brK F.ks n t false) _ w2 m cnt hwg2 (by rw [List.length_map]; exact HLEN.out) (HSL.out false) (HST.out false) hn2 (by have := HD.out.2; have := HP2.out; have := pow_pos2 (d - 1 + 1); omega)
     rw [HAB.out.1] at hbe
     have HBE := hide hbe
     clear hn2 hB2 hwg2 hbe
     go_wp2_with fail
     refine HBE.out.mono ?_
     rintro e w3 ⟨m1, cnt1, rfl, r1⟩
     have R1 := hide r1
     have HN3 : Hid (Nods w3 w3.heap.size (.slice (some ⟨b0, off, none⟩) nodes.length cap) nodes) := Sl.more (Sl.keep HN2.out (r1.cells HWG2.out)) r1.keep.size
     clear r1
     go_wp2_with fail
     refine (step_any F wp _ ws kb cnt1 m1 nodes t true _ w3 R1.out.here (by omega) HLT.out HN3.out).mono ?_
     rintro e w4 ⟨v4, rfl, hn4, hB4⟩
     obtain ⟨A4, cap4, rfl⟩ := Sl.form hn4
     rw [List.length_map] at hn4 ⊢
     have hwg4 := R1.out.here.below hB4
     have HB4 := hide hB4
     have hbe := HIH.out (d - 1) (by omega) (nodes.map fun n => brK F.ks n t true) _ w4 m1 cnt1 hwg4 (by rw [List.length_map]; exact HLEN.out) (HSL.out true) (HST.out true) hn4 (by have := HD.out.2; have := HP2.out; have := R1.out.cnt; have := pow_pos2 (d - 1 + 1); omega)
     rw [HAB.out.2] at hbe
     have HBE4 := hide hbe
     clear hn4 hB4 hwg4 hbe
     go_wp2_with fail
     refine HBE4.out.mono ?_
     rintro e w5 ⟨m2, cnt2, rfl, r2⟩
     have R2 := hide r2
     have f0 := cellOf r2.here.box 0
     have f1 := cellOf r2.here.box 1
     have f2 := cellOf r2.here.box 2
     have hcn : cnt2 < maxLen := by
      have h1 := R1.out.cnt
      have h2 := r2.cnt
      have h3 := HD.out.2
      have h4 := HP2.out
      unfold maxLen; omega
     clear r2
     by_cases hab : a < b
     ·
      have HAB2 : Hid (a < b) := hab
      go_wp2_with (at_mapUpdate; go_must (refine wpList_put _ rfl _ _ _ 236 rfl R2.out.here.map stLaw Tryz.underlying236 Tryz.underlying3 enS_inj hcn ⟨nodes, HS30.out⟩ ⟨_, HKL.out⟩ b HWF.out.2 rfl rfl rfl ?_); intro w9 hm9 hg9; have HM9 := hide hm9; have HG9 := hide hg9; clear hm9 hg9)
      go_ret
      have hk9 : Keeps (fun i => i = kb) w5 w9 := Keeps.of_grown HG9.out (fun k hk => by injection hk with hk; exact hk.symm)
      have hbest : bestK F.ks F.N nodes ws [] = b := by have := HAB2.out; rw [HBS.out]; omega
      first | refine ⟨ret_int hbest.symm, _, _, ⟨?_, R2.out.here.turn hk9 HM9.out (fun q x hq => ?_), ?_⟩⟩ | refine ⟨_, _, ret_int hbest.symm, ⟨?_, R2.out.here.turn hk9 HM9.out (fun q x hq => ?_), ?_⟩⟩
      ·
       have k1 : Keeps (fun i => i = kb) w w3 := (Keeps.of_below (Below.to HB1.out HB2.out (Nat.le_refl _))).trans R1.out.keep (fun _ _ h => h)
       have k2 : Keeps (fun i => i = kb) w3 w5 := (Keeps.of_below HB4.out).trans R2.out.keep (fun _ _ h => h)
       exact (k1.trans k2 (fun _ _ h => h)).trans hk9 (fun _ _ h => h)
      ·
       unfold putM at hq
       split at hq
       ·
        rename_i e
        injection hq with hq
        rw [e, ← hq]
        exact hbest.symm
       ·
        exact R2.out.here.ok q x hq
      ·
       have h1 := R1.out.cnt
       have h2 := R2.out.cnt
       have h4 := HP2.out
       omega
     ·
      have HAB2 : Hid (¬ a < b) := hab
      go_wp2_with (at_mapUpdate; go_must (refine wpList_put _ rfl _ _ _ 236 rfl R2.out.here.map stLaw Tryz.underlying236 Tryz.underlying3 enS_inj hcn ⟨nodes, HS30.out⟩ ⟨_, HKL.out⟩ a HWF.out.1 rfl rfl rfl ?_); intro w9 hm9 hg9; have HM9 := hide hm9; have HG9 := hide hg9; clear hm9 hg9)
      go_ret
      have hk9 : Keeps (fun i => i = kb) w5 w9 := Keeps.of_grown HG9.out (fun k hk => by injection hk with hk; exact hk.symm)
      have hbest : bestK F.ks F.N nodes ws [] = a := by have := HAB2.out; rw [HBS.out]; omega
      first | refine ⟨ret_int hbest.symm, _, _, ⟨?_, R2.out.here.turn hk9 HM9.out (fun q x hq => ?_), ?_⟩⟩ | refine ⟨_, _, ret_int hbest.symm, ⟨?_, R2.out.here.turn hk9 HM9.out (fun q x hq => ?_), ?_⟩⟩
      ·
       have k1 : Keeps (fun i => i = kb) w w3 := (Keeps.of_below (Below.to HB1.out HB2.out (Nat.le_refl _))).trans R1.out.keep (fun _ _ h => h)
       have k2 : Keeps (fun i => i = kb) w3 w5 := (Keeps.of_below HB4.out).trans R2.out.keep (fun _ _ h => h)
       exact (k1.trans k2 (fun _ _ h => h)).trans hk9 (fun _ _ h => h)
      ·
       unfold putM at hq
       split at hq
       ·
        rename_i e
        injection hq with hq
        rw [e, ← hq]
        exact hbest.symm
       ·
        exact R2.out.here.ok q x hq
      ·
       have h1 := R1.out.cnt
       have h2 := R2.out.cnt
       have h4 := HP2.out
       omega
theorem Stk.push {B : Nat} {w w1 : World} {F : Fo} {A : Option Addr} {n cap m : Nat} {S : List Nat} {v1 : Value} {o : Obj} (h : Stk B w F (.slice A n cap) S) (hF : FoAt w F) (hown : w1.ownsRow B 3 1 v1 (S.length + 1) ((S.map fun (n : Nat) => Value.int .i64 n) ++ [.int .i64 (m : Nat)])) (hg : (w.alloc o).grownBy w1 (Value.slice A n cap).ownBlock)
  (hat : v1.ownBlock = (Value.slice A n cap).ownBlock ∨ v1.ownBlock = some (w.alloc o).heap.size) : Stk B w1 F v1 (S ++ [m]) ∧ Keeps (fun i => (Value.slice A n cap).ownBlock = some i) w w1 := by
 refine ⟨⟨?_, fun b hb hs => ?_⟩, Keeps.trans ((Keeps.refl _ w).alloc _) (Keeps.of_grown hg (fun k hk => hk)) (fun _ _ h => h)⟩
 ·
  rw [List.length_append, List.length_singleton, List.map_append]; exact hown
 ·
  rcases hat with e | e
  ·
   exact h.2 b (by rw [← hb, e]) hs
  ·
   rw [hb] at e
   injection e with e
   have := hF.slt hs
   simp at e
   omega
def Bols (w : World) (B : Nat) (v : Value) (l : List Bool) : Prop := Sl w B 1 v l.length (fun i _ => .bool (l.getD i false))
def VarAt (w : World) (b N : Nat) (l : List Bool) : Prop := w.heap[b]? = some (.cells ((l ++ List.replicate (N - l.length) false).map Value.bool).toArray 4 (0, 0))
theorem VarAt.cell {w : World} {b N : Nat} {l : List Bool} (h : VarAt w b N l) (hl : l.length < N) : w.cell? ⟨b, l.length, none⟩ = some (.bool false) := by
 rw [cellOf h]
 simp only [List.getElem?_toArray, List.getElem?_map]
 rw [List.getElem?_append_right (Nat.le_refl _), Nat.sub_self, List.getElem?_replicate, if_pos (by omega)]
 rfl
theorem VarAt.set {w : World} {b N : Nat} {l : List Bool} (h : VarAt w b N l) (hl : l.length < N) (x : Bool) : VarAt (w.setCell ⟨b, l.length, none⟩ (.bool x)) b N (l ++ [x]) := by
 unfold VarAt
 rw [setCellOf h]
 congr 2
 rw [List.setIfInBounds_toArray]
 congr 1
 have e : N - l.length = (N - (l ++ [x]).length) + 1 := by simp; omega
 rw [e, List.replicate_succ]
 simp
theorem VarAt.bols {w : World} {b : Nat} {l : List Bool} (h : VarAt w b l.length l) : Bols w w.heap.size (.slice (some ⟨b, 0, none⟩) l.length l.length) l :=
 ⟨_, b, 0, _, rfl, Nat.le_refl _, .inl ⟨rfl, box_lt h⟩, fun i j hi hj => by
  obtain rfl : j = 0 := by omega
  rw [Nat.mul_one, Nat.add_zero, Nat.zero_add, cellOf h]
  simp [hi]⟩
theorem made_bools (N : Nat) : madeCells #[.bool false] N = (((List.replicate N false).map Value.bool).toArray) := by
 apply Array.ext
 ·
  simp [madeCells]
 ·
  intro i h1 h2
  simp [madeCells, Nat.mod_one]
theorem infoBool : (Tryz.prog.info? 4).map (fun i => (i.zero, i.size, i.bytes)) = some (some (.bool false), 1, 1) := by kernel_rfl
def MostR (m : Mo) (l : List (List Int)) (ws : List Int) (w : World) (e : Ending) (w' : World) : Prop :=
 ∃ v x, e = .returned (.tuple #[.int .i64 (bestF m l ws), v, .int .i64 0]) ∧ (exts m.opts.length []).find? (fun y => valF m l ws y == bestF m l ws) = some x ∧ x.length = m.opts.length ∧ Bols w' w'.heap.size v x ∧ Below w.heap.size w w'
theorem fsum_bd (v : Nat → Bool) : ∀ (a : List (List Int)) (ws : List Int), (∀ x ∈ ws, -1000000 ≤ x ∧ x ≤ 1000000) → -1000000 * (a.length : Int) ≤ fsum v a ws ∧ fsum v a ws ≤ 1000000 * (a.length : Int)
 | [], ws, _ => by cases ws <;> simp [fsum]
 | n :: a, [], _ => by simp [fsum]; omega
 | n :: a, x :: ws, h => by
  have h1 := fsum_bd v a ws fun y hy => h y (by simp [hy])
  have h2 := h x (by simp)
  simp only [fsum, List.length_cons]
  split <;> omega
theorem bestF_big {m : Mo} {l : List (List Int)} {ws : List Int} (hw : ∀ x ∈ ws, -1000000 ≤ x ∧ x ≤ 1000000) (hl : l.length ≤ 1000) (hs : satM m (fun _ => true) ≠ []) : leastI < bestF m l ws := by
 obtain ⟨x, hx⟩ := List.exists_mem_of_ne_nil _ hs
 unfold satM at hx
 rw [List.mem_filter] at hx
 have h1 := maxL_mem ((exts m.opts.length []).map (valF m l ws)) (valF m l ws x) (List.mem_map.2 ⟨x, hx.1, rfl⟩)
 have h2 : valF m l ws x = fsum (vf x) l ws := by
  unfold valF; rw [if_pos]; simpa using hx.2
 have h3 := fsum_bd (vf x) l ws hw
 unfold bestF
 unfold leastI at *
 omega
theorem WgAt.setOther {w : World} {F : Fo} {wp : Nat} {wsv : Value} {ws : List Int} {kb cnt : Nat} {m : SmL → Option Int} (h : WgAt w F wp wsv ws kb cnt m) {p : Addr} {u : Value} (h1 : p.block ≠ wp) (h2 : p.block ≠ kb) (h3 : ¬ SF F p.block) (hw : Ints (w.setCell p u) (w.setCell p u).heap.size wsv ws) : WgAt (w.setCell p u) F wp wsv ws kb cnt m :=
 ⟨(Below.heap_setCell _ _ _ _ (fun e => h1 e.symm)).trans h.box, h.fo.same (fun k hk => Below.heap_setCell _ _ _ _ (fun e => h3 (e ▸ hk))), hw, h.map.same (Below.heap_setCell _ _ _ _ (fun e => h2 e.symm)), h.ok, h.nS⟩
theorem Nods.setBool {w : World} {B b N k : Nat} {v : Value} {ns : List Nat} {ls : List Bool} {u : Value} (h : Nods w B v ns) (hv : VarAt w b N ls) : Nods (w.setCell ⟨b, k, none⟩ u) B v ns := by
 obtain ⟨A, b0, off, cap, h1, h2, h3, h4⟩ := h
 refine ⟨A, b0, off, cap, h1, h2, h3, fun i j hi hj => ?_⟩
 rw [← h4 i j hi hj]
 have hne : b0 ≠ b := by
  intro e
  have h5 := h4 i j hi hj
  rw [e, cellOf hv] at h5
  simp only [List.getElem?_toArray, List.getElem?_map] at h5
  generalize (ls ++ List.replicate (N - ls.length) false)[off + (i * 1 + j)]? = q at h5
  cases q with
  | none => simp at h5
  | some x => simp at h5
 exact World.cell?_of_block (Below.heap_setCell _ _ _ _ hne)
theorem VarAt.below {w w' : World} {b N : Nat} {ls : List Bool} (h : VarAt w b N ls) (hb : Below w.heap.size w w') : VarAt w' b N ls := box_to h hb
end Go.Proofs.YtehadoecnmfeoaaGreat
namespace Go.Proofs.YtehadoecnmfeoaaGreat
open Go.Joins Go.ChangeShapes Go.WideShapes Go.ChangeAt Go.RowKit Go.Deep

section
variable {H : Type} {enc : TypeId × Value → H} {P : Program}
theorem post_of_below {f : Func} {s : ChangeSpec} {apart fresh handsOn again : Bool} {W W' : World} {args : Array Value} {v : Value} {ds gs : List (DataW H)} {before pa pv : List MemPlace}
  (hW : DataW.Whole enc P f.params.toList s.vars apart W args.toList ds gs before)
  (hres : ∀ (b : Nat) (sp : Nat → Bool) (hd : Bool), DataW.TrodAll enc P W' b sp hd f.resultTypes.toList (v.resultList f.resultTypes.size) (s.fn H (ds ++ gs)).results [])
  (hargs : ∀ sp : Nat → Bool, (∀ p ∈ before, sp p.block = true) → DataW.TrodAll enc P W' 0 sp true f.params.toList args.toList (s.fn H (ds ++ gs)).args pa)
  (hvars : ∀ sp : Nat → Bool, (∀ p ∈ before, sp p.block = true) → DataW.TrodVars enc P W' sp s.vars (s.fn H (ds ++ gs)).vars pv)
  (hps : before = pa ++ pv) (hb : Below W.heap.size W W')
  (hok : ∀ (j : Nat) (t : TypeId) (r : Value), f.resultTypes[j]? = some t → (v.resultList f.resultTypes.size)[j]? = some r → Value.okWide P W' .any 0 t r) :
  s.post enc P f apart fresh handsOn again W args v W' := by
 have hlt : ∀ p ∈ before, p.block < W.heap.size := fun p hp => hW.lt p hp
 have hold : ∀ p ∈ before, (fun b => decide (b < W.heap.size)) p.block = true := fun p hp => by simpa using hlt p hp
 refine ⟨ds, gs, before, [], pa, pv, hW, hres _ _ _, hargs _ hold, hvars _ hold, World.keptBut_mono (fun p hp => ⟨hp, ?_⟩) (hb.frame (· ∈ before)), fun _ => ?_⟩
 ·
  rw [hps, List.mem_append] at hp
  exact Or.inr hp
 ·
  obtain ⟨_, _, _, _, _, hz, hn⟩ := hW
  refine ⟨hok, _, _, ([] ++ pa) ++ pv, ⟨[] ++ pa, pv, trodAll_append (hargs _ (fun _ _ => rfl)) (hres _ _ _), hvars _ (fun _ _ => rfl), rfl, ?_, ?_⟩, ?_⟩
  ·
   intro b off hp
   have hin : MemPlace.cell b off ∈ before := by rw [hps]; simpa using hp
   rw [hb.frozen (hlt _ hin)]
   exact hz b off hin
  ·
   intro ha
   have := hn ha
   rw [hps] at this
   simpa using this
  ·
   intro p hp _
   rw [hps]
   simpa using hp

theorem trodAll_stays (hl : laidOutB P = true) {W W' : World} (hb : Below W.heap.size W W') (sp : Nat → Bool) : ∀ (ts : List TypeId) (vs : List Value) (ds : List (DataW H)) (ps : List MemPlace),
  (∀ t ∈ ts, P.readableRec t = true ∧ t < P.types.size) → DataW.TrodAll enc P W 0 (fun _ => true) true ts vs ds ps → (∀ x ∈ ps, x.block < W.heap.size) → (∀ x ∈ ps, sp x.block = true) → DataW.TrodAll enc P W' 0 sp true ts vs ds ps
 | [], [], [], _, _, h, _, _ => h
 | t :: ts, v :: vs, d :: ds, ps, hr, ⟨p, q, h1, h2, hp⟩, hlt, hsp => by
  subst hp
  refine ⟨p, q, ?_, trodAll_stays hl hb sp ts vs ds q (fun t' ht => hr t' (List.mem_cons_of_mem _ ht)) h2 (fun x hx => hlt x (List.mem_append_right _ hx)) (fun x hx => hsp x (List.mem_append_right _ hx)), rfl⟩
  have h := hr t (List.mem_cons_self ..)
  exact WideElems.Trod_stays hl h.1 h.2 h1 (fun x hx => hb.same (hlt x (List.mem_append_left _ hx))) (fun x hx => hsp x (List.mem_append_left _ hx))
end

section
variable {H : Type} {enc : TypeId × Value → H} {P : Program} {w : World} {base : Nat} {spare : Nat → Bool} {held : Bool}
end
end Go.Proofs.YtehadoecnmfeoaaGreat

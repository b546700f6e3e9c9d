/- Cycles of currents: a copy, the number of seconds, the seconds one by one: walks. -/
import Derived.Test.YtejjjijaojkohaaRows
import Derived.Test.YtejjjijaojkohaaW3
import Derived.Test.YtejjjijaojkohaaK2
namespace Go.Proofs.Ytejjjijaojkohaa
open Go.RowKit

theorem infoCu : (Try.prog.info? 54).map (fun i => (i.zero, i.size, i.bytes)) = some (some (.agg #[.int .i64 0, .int .i64 0]), 2, 16) := by kernel_rfl
theorem infoInt : (Try.prog.info? 3).map (fun i => (i.zero, i.size, i.bytes)) = some (some (.int .i64 0), 1, 8) := by kernel_rfl
theorem cyF_one (cs : List Cu) (i j : Nat) : (cyF cs i j).oneCell' = true := rfl

theorem cycle_any (v : Value) (cs : List Cu) (w : World) (hn : cs.length ≤ 20) (h : Cyc w w.heap.size v cs) :
    Calls Try.prog 22 #[v] w fun e w' => ∃ v', e = .returned v' ∧ Cyc w' w'.heap.size v' cs ∧ Below w.heap.size w w' := by
  obtain ⟨i0, hi0, hz0, hz1, hz2⟩ := info_parts infoCu
  have H := hide h
  obtain ⟨A, cap, rfl⟩ := h.form
  clear h
  go_enter Try.func22, Try.ntmps22
  go_wp2_with (at_builtin; refine wpList_append_any _ rfl (.tmp 3) (.tmp 4) _ rfl w.heap.size 54 i0 _ 2 16 Try.underlying31 hi0 hz0 hz1 hz2 rfl (by omega) (.slice (some ⟨w.heap.size, 0, none⟩) 0 0) 0 [] rfl (World.ownsRow_made w #[] 0 (Nat.le_refl _) (by unfold maxLen; omega) rfl) w.heap.size A cs.length cap (flat cs.length 2 (cyF cs)) rfl ((H.out.reads (by omega)).alloc (Nat.le_refl _) _) (flat_one (by omega) (cyF_one cs)) (by unfold maxLen; omega) (by omega) (by simp) ?_; intro v1 w1 hown1 hg1 hat1)
  go_ret
  rw [Nat.zero_add, List.nil_append] at hown1
  exact ⟨v1, rfl, Sl.of_owns hown1 (fun i j hi hj => flat_get hi hj), (Below.allocT (Below.refl _ w) (Nat.le_refl _) _).grown hg1 (by simp) (fun k e => by simp [Value.ownBlock] at e; omega)⟩

def secsN (cs : List Cu) : Nat := (cs.map fun c => c.secs.toNat).sum
def secsL (cs : List Cu) : List Int := cs.flatMap fun c => List.replicate c.secs.toNat c.amps
theorem secsL_length (cs : List Cu) : (secsL cs).length = secsN cs := by
  induction cs with
  | nil => rfl
  | cons c r ih => simp only [secsL, secsN, List.flatMap_cons, List.length_append, List.length_replicate, List.map_cons, List.sum_cons] at ih ⊢; rw [ih]
theorem cu_mem {cs : List Cu} {k : Nat} (hk : k < cs.length) : cs.getD k Cu.z ∈ cs := by
  have h : cs.getD k Cu.z = cs[k] := by simp [hk]
  rw [h]; exact List.getElem_mem hk
theorem take_succ_cu {cs : List Cu} {k : Nat} (hk : k < cs.length) : cs.take (k + 1) = cs.take k ++ [cs.getD k Cu.z] := by
  have h : cs.getD k Cu.z = cs[k] := by simp [hk]
  rw [List.take_succ_eq_append_getElem hk, h]
theorem secsN_take {cs : List Cu} {k : Nat} (hk : k < cs.length) : secsN (cs.take (k + 1)) = secsN (cs.take k) + (cs.getD k Cu.z).secs.toNat := by
  rw [take_succ_cu hk]; simp [secsN]
theorem secsL_take {cs : List Cu} {k : Nat} (hk : k < cs.length) : secsL (cs.take (k + 1)) = secsL (cs.take k) ++ List.replicate (cs.getD k Cu.z).secs.toNat (cs.getD k Cu.z).amps := by
  rw [take_succ_cu hk]; simp [secsL]
theorem cycOk_len {cs : List Cu} (h : cycOk cs = true) : 1 ≤ cs.length ∧ cs.length ≤ 6 := by
  simp only [cycOk, Bool.and_eq_true, fromB_iff] at h
  omega
theorem cycOk_cu {cs : List Cu} (h : cycOk cs = true) {c : Cu} (hc : c ∈ cs) : 0 ≤ c.amps ∧ c.amps ≤ 500 ∧ 1 ≤ c.secs ∧ c.secs ≤ 60 := by
  simp only [cycOk, Bool.and_eq_true, Bool.not_eq_true', List.any_eq_false] at h
  have h2 := h.2 c hc
  simp only [Bool.not_eq_false, Cu.ok, Bool.and_eq_true, fromB_iff] at h2
  omega
theorem secsN_take_le {cs : List Cu} (h : cycOk cs = true) (k : Nat) (hk : k ≤ cs.length) : secsN (cs.take k) ≤ 60 * k := by
  induction k with
  | zero => simp [secsN]
  | succ k ih =>
    have h1 := secsN_take (show k < cs.length by omega)
    have h2 := cycOk_cu h (cu_mem (show k < cs.length by omega))
    have h3 := ih (by omega)
    omega
theorem secsN_le {cs : List Cu} (h : cycOk cs = true) : secsN cs ≤ 360 := by
  have h1 := secsN_take_le h cs.length (Nat.le_refl _)
  rw [List.take_length] at h1
  have h2 := cycOk_len h
  omega
theorem secsN_pos {cs : List Cu} (h : cycOk cs = true) : 1 ≤ secsN cs := by
  have h1 := cycOk_len h
  match cs, h1 with
  | c :: r, _ =>
    have h2 := cycOk_cu h (List.mem_cons_self (a := c) (l := r))
    simp only [secsN, List.map_cons, List.sum_cons]
    omega

theorem long_any (v : Value) (cs : List Cu) (w : World) (hok : cycOk cs = true) (h : Cyc w w.heap.size v cs) :
    Calls Try.prog 94 #[v] w fun e w' => e = .returned (.int .i64 (secsN cs)) ∧ Below w.heap.size w w' := by
  obtain ⟨A, b, off, cap, rfl, hnc, hA, hc⟩ := h
  have HC := hide hc; clear hc
  have HA := hide hA; clear hA
  have hlen := (cycOk_len hok).2
  have HOK := hide hok; clear hok
  go_enter Try.func94, Try.ntmps94
  go_wp2
  go_loopw [2, 4, 7] (fun t _ i wr => ∃ k m : Nat, k ≤ cs.length ∧ m ≤ 60 * k ∧ Hid (m = secsN (cs.take k)) ∧ i = .int .i64 k ∧ t = .int .i64 m ∧ Below w.heap.size w wr) (fun _ _ i _ => cs.length - (intOf i).toNat)
  case atStart => exact ⟨0, 0, Nat.zero_le _, by omega, rfl, rfl, rfl, Below.refl _ _⟩
  case round =>
    obtain ⟨k, m, hk, hm, hs, rfl, rfl, hB⟩ := hrel
    by_cases hlt : k < cs.length
    · obtain ⟨c, HZ, hA1, h0, h1⟩ := cyAt hB HA.out HC.out hlt
      subst hA1
      have hc2 := cycOk_cu HOK.out (cu_mem hlt)
      rw [HZ.out] at hc2
      obtain ⟨_, _, hc3, hc4⟩ := hc2
      go_wp2
      go_roundw
      case rel => exact ⟨k + 1, m + c.secs.toNat, by omega, by omega, by show _ = _; rw [secsN_take hlt, HZ.out, hs.out], by go_num, by go_num, (by repeat (first | exact Below.refl _ _ | assumption | refine Below.drew ?_ | refine Below.drewN ?_ _ | refine Below.allocT ?_ (Nat.le_refl _) _ | refine Below.setCell ?_ (by simp <;> omega) _ | refine Below.to ?_ (by assumption) (Nat.le_refl _)))⟩
      case measure => simp [intOf]; omega
    · go_wp2
      go_ret
      exact ⟨ret_int (by rw [hs.out, List.take_of_length_le (by omega)]), hB⟩

theorem seconds_any (v : Value) (cs : List Cu) (w : World) (hok : cycOk cs = true) (h : Cyc w w.heap.size v cs) :
    Calls Try.prog 66 #[v] w fun e w' => ∃ v', e = .returned v' ∧ w'.ownsRow w.heap.size 3 1 v' (secsN cs) ((secsL cs).map (Value.int .i64)) ∧ Below w.heap.size w w' := by
  obtain ⟨i0, hi0, hz0, hz1, hz2⟩ := info_parts infoInt
  obtain ⟨A, b, off, cap, rfl, hnc, hA, hc⟩ := h
  have HC := hide hc; clear hc
  have HA := hide hA; clear hA
  have hlen := (cycOk_len hok).2
  have HOK := hide hok; clear hok
  go_enter Try.func66, Try.ntmps66
  go_wp2
  go_loopw [3, 4, 5] (fun l i _ wr => ∃ k m : Nat, k ≤ cs.length ∧ m ≤ 60 * k ∧ Hid (m = secsN (cs.take k)) ∧ i = .int .i64 k ∧ wr.ownsRow w.heap.size 3 1 l m ((secsL (cs.take k)).map (Value.int .i64)) ∧ Below w.heap.size w wr) (fun _ i _ _ => cs.length - (intOf i).toNat)
  case atStart => exact ⟨0, 0, Nat.zero_le _, by omega, rfl, rfl, World.ownsRow_nil _ _ _ _, Below.refl _ _⟩
  case round =>
    obtain ⟨k, m, hk, hm, hs, rfl, hown, hB⟩ := hrel
    by_cases hlt : k < cs.length
    · have hb := cyB HA.out (show 0 < cs.length by omega)
      obtain ⟨c, HZ, hA1, h0, h1⟩ := cyAt hB HA.out HC.out hlt
      subst hA1
      have hc2 := cycOk_cu HOK.out (cu_mem hlt)
      rw [HZ.out] at hc2
      obtain ⟨_, _, hc3, hc4⟩ := hc2
      go_wp2
      obtain ⟨wo, rfl⟩ : ∃ wo : World, wo = wr := ⟨_, rfl⟩
      go_loopw [3, 5] (fun l s wr => ∃ t : Nat, (t : Int) ≤ c.secs ∧ s = .int .i64 t ∧ wr.ownsRow w.heap.size 3 1 l (m + t) ((secsL (cs.take k) ++ List.replicate t c.amps).map (Value.int .i64)) ∧ Below w.heap.size w wr) (fun _ s _ => c.secs.toNat - (intOf s).toNat)
      case atStart => exact ⟨0, by omega, rfl, by simpa using hown, hB⟩
      case round =>
        obtain ⟨t, ht, rfl, hown2, hB2⟩ := hrel
        obtain ⟨h0, h1⟩ := cyAt2 hB2 hb HC.out hlt HZ.out
        by_cases hts : (t : Int) < c.secs
        · go_wp2_with (at_builtin; refine wpList_append_own_at _ rfl (.tmp 21) (.tmp 27) _ rfl w.heap.size 3 i0 _ 1 8 Try.underlying49 hi0 hz0 hz1 hz2 rfl (by omega) _ _ _ rfl (hown2.alloc _) ⟨wr.heap.size, 0, none⟩ 1 1 [.int .i64 c.amps] rfl rfl (cell_one_new _ _ _) (by simp [Value.oneCell']) (by unfold maxLen; omega) (by omega) (by have := hB2.size; simp; omega) ?_; intro v1 w1 hown1 hg1 _ hat1)
          go_roundw
          case rel => exact ⟨t + 1, by omega, by go_num, by simpa [List.replicate_succ', Nat.add_assoc] using hown1, (Below.allocT hB2 (Nat.le_refl _) _).grown hg1 (by have := hB2.size; simp; omega) (fun k e => (hown2.lt k e).1)⟩
          case measure => simp [intOf]; omega
        · go_wp2
          go_roundw
          case rel =>
            have ht2 : t = c.secs.toNat := by omega
            exact ⟨k + 1, m + c.secs.toNat, by omega, by omega, by show _ = _; rw [secsN_take hlt, HZ.out, hs.out], by go_num, by rw [secsL_take hlt, HZ.out, ← ht2]; exact hown2, hB2⟩
          case measure => simp [intOf]; omega
    · go_wp2
      go_ret
      exact ⟨_, rfl, by rw [hs.out, List.take_of_length_le (show cs.length ≤ k by omega)] at hown; exact hown, hB⟩
end Go.Proofs.Ytejjjijaojkohaa

/- Cycles of currents: what the checks of a cycle compute: walks. -/
import Derived.Test.YtejjjijaojkohaaRows
import Derived.Test.YtejjjijaojkohaaW2
import Derived.Test.YtejjjijaojkohaaK1
namespace Go.Proofs.Ytejjjijaojkohaa
open Go.RowKit

structure Cu where
  amps : Int
  secs : Int
def Cu.z : Cu := ⟨0, 0⟩
def cyF (cs : List Cu) (i j : Nat) : Value := .int .i64 (if j = 0 then (cs.getD i Cu.z).amps else (cs.getD i Cu.z).secs)
/-- The slice value v holds the cycle cs, below block B. -/
def Cyc (w : World) (B : Nat) (v : Value) (cs : List Cu) : Prop := Sl w B 2 v cs.length (cyF cs)
def Cu.ok (c : Cu) : Bool := fromB c.amps 0 500 && fromB c.secs 1 60
def cycOk (cs : List Cu) : Bool := fromB cs.length 1 6 && !(cs.any fun c => !c.ok)

def cycErr (cs : List Cu) : Int := if cycOk cs then 0 else 71

theorem badCu_any (c : Cu) (w : World) :
    Calls Try.prog 92 #[.agg #[.int .i64 c.amps, .int .i64 c.secs]] w fun e w' => e = .returned (.bool (!c.ok)) ∧ Below w.heap.size w w' := by
  go_enter Try.func92, Try.ntmps92
  go_wp2_with (go_at_call 49; refine (within_any _ _ _ _).mono ?_; rintro e w' ⟨rfl, rfl⟩)
  all_goals
    go_ret
    exact ⟨by simp_all [Cu.ok], (by repeat (first | exact Below.refl _ _ | assumption | refine Below.drew ?_ | refine Below.drewN ?_ _ | refine Below.allocT ?_ (Nat.le_refl _) _ | refine Below.setCell ?_ (by simp <;> omega) _ | refine Below.to ?_ (by assumption) (Nat.le_refl _)))⟩

theorem cyAt {w wr : World} {B b off : Nat} {A : Option Addr} {cs : List Cu} {k : Nat} (hB : Below B w wr) (hA : A = some ⟨b, off, none⟩ ∧ b < B ∨ cs.length = 0)
    (hc : ∀ i j, i < cs.length → j < 2 → w.cell? ⟨b, off + (i * 2 + j), none⟩ = some (cyF cs i j)) (hlt : k < cs.length) :
    ∃ c, Hid (cs.getD k Cu.z = c) ∧ A = some ⟨b, off, none⟩ ∧ wr.cell? ⟨b, off + k * 2, none⟩ = some (.int .i64 c.amps) ∧ wr.cell? ⟨b, off + k * 2 + 1, none⟩ = some (.int .i64 c.secs) := by
  rcases hA with ⟨hA1, hA2⟩ | hA1
  · exact ⟨_, rfl, hA1, (hB.cell (p := ⟨b, off + k * 2, none⟩) hA2).trans (hc k 0 hlt (by omega)), (hB.cell (p := ⟨b, off + k * 2 + 1, none⟩) hA2).trans (hc k 1 hlt (by omega))⟩
  · omega

theorem cyAt2 {w wr : World} {B b off : Nat} {cs : List Cu} {k : Nat} {c : Cu} (hB : Below B w wr) (hb : b < B)
    (hc : ∀ i j, i < cs.length → j < 2 → w.cell? ⟨b, off + (i * 2 + j), none⟩ = some (cyF cs i j)) (hlt : k < cs.length) (hz : cs.getD k Cu.z = c) :
    wr.cell? ⟨b, off + k * 2, none⟩ = some (.int .i64 c.amps) ∧ wr.cell? ⟨b, off + k * 2 + 1, none⟩ = some (.int .i64 c.secs) := by
  subst hz
  exact ⟨(hB.cell (p := ⟨b, off + k * 2, none⟩) hb).trans (hc k 0 hlt (by omega)), (hB.cell (p := ⟨b, off + k * 2 + 1, none⟩) hb).trans (hc k 1 hlt (by omega))⟩
theorem cyB {B b off n : Nat} {A : Option Addr} (hA : A = some ⟨b, off, none⟩ ∧ b < B ∨ n = 0) (hlt : 0 < n) : b < B := by
  rcases hA with ⟨_, h⟩ | h
  · exact h
  · omega

theorem indexCu_any (v : Value) (cs : List Cu) (w : World) (hn : cs.length ≤ 20) (h : Cyc w w.heap.size v cs) :
    Calls Try.prog 108 #[v, .func (.func 92) #[] #[]] w
      fun e w' => e = .returned (.int .i64 (idxI (fun c => !c.ok) cs)) ∧ Below w.heap.size w w' := by
  obtain ⟨A, b, off, cap, rfl, hnc, hA, hc⟩ := h
  have HC := hide hc; clear hc
  have HA := hide hA; clear hA
  go_enter Try.func108, Try.ntmps108
  go_wp2
  go_loopw [5, 8] (fun _ i wr => ∃ k : Nat, k ≤ cs.length ∧ i = .int .i64 k ∧ Hid (∀ j, j < k → (!(cs.getD j Cu.z).ok) = false) ∧ Below w.heap.size w wr) (fun _ i _ => cs.length - (intOf i).toNat)
  case atStart => exact ⟨0, Nat.zero_le _, rfl, fun j hj => by omega, Below.refl _ _⟩
  case round =>
    obtain ⟨k, hk, rfl, hz, hB⟩ := hrel
    by_cases hlt : k < cs.length
    · obtain ⟨c, HZ, hA1, h0, h1⟩ := cyAt hB HA.out HC.out hlt
      subst hA1
      by_cases hok : (!c.ok) = true
      · have HOK := hide hok
        go_wp2_with (go_at_call 92; refine (badCu_any c _).mono ?_; rw [hok]; rintro e w' ⟨rfl, hB2⟩)
        go_ret
        exact ⟨ret_int (idxI_at _ Cu.z cs k hz.out hlt (by rw [HZ.out]; exact HOK.out)).symm, (by repeat (first | exact Below.refl _ _ | assumption | refine Below.drew ?_ | refine Below.drewN ?_ _ | refine Below.allocT ?_ (Nat.le_refl _) _ | refine Below.setCell ?_ (by simp <;> omega) _ | refine Below.to ?_ (by assumption) (Nat.le_refl _)))⟩
      · have hok' : (!c.ok) = false := by simpa using hok
        clear hok
        have HOK := hide hok'
        go_wp2_with (go_at_call 92; refine (badCu_any c _).mono ?_; rw [hok']; rintro e w' ⟨rfl, hB2⟩)
        go_roundw
        case rel => exact ⟨k + 1, by omega, by go_num, fun j hj => by
          rcases Nat.lt_or_ge j k with h | h
          · exact hz.out j h
          · rw [show j = k from by omega, HZ.out]; exact HOK.out, (by repeat (first | exact Below.refl _ _ | assumption | refine Below.drew ?_ | refine Below.drewN ?_ _ | refine Below.allocT ?_ (Nat.le_refl _) _ | refine Below.setCell ?_ (by simp <;> omega) _ | refine Below.to ?_ (by assumption) (Nat.le_refl _)))⟩
        case measure => simp [intOf]; omega
    · go_wp2
      go_ret
      exact ⟨ret_int (idxI_none _ Cu.z cs (fun j hj => hz.out j (by omega))).symm, (by repeat (first | exact Below.refl _ _ | assumption | refine Below.drew ?_ | refine Below.drewN ?_ _ | refine Below.allocT ?_ (Nat.le_refl _) _ | refine Below.setCell ?_ (by simp <;> omega) _ | refine Below.to ?_ (by assumption) (Nat.le_refl _)))⟩

theorem containsCu_any (v : Value) (cs : List Cu) (w : World) (hn : cs.length ≤ 20) (h : Cyc w w.heap.size v cs) :
    Calls Try.prog 93 #[v, .func (.func 92) #[] #[]] w
      fun e w' => e = .returned (.bool (cs.any (fun c => !c.ok))) ∧ Below w.heap.size w w' := by
  have hl := idxI_lo (fun c : Cu => !c.ok) cs
  have hany := hide (idxI_any (fun c : Cu => !c.ok) cs)
  have H := hide h
  obtain ⟨A, cap, rfl⟩ := h.form
  clear h
  go_enter Try.func93, Try.ntmps93
  go_wp2_with (go_at_call 108; refine (indexCu_any _ cs _ hn H.out).mono ?_; rintro e w' ⟨rfl, hB⟩)
  go_ret
  exact ⟨ret_bool hany.out, hB⟩

theorem checkCycle_any (v : Value) (cs : List Cu) (w : World) (hn : cs.length ≤ 20) (h : Cyc w w.heap.size v cs) :
    Calls Try.prog 59 #[v] w fun e w' => e = .returned (.int .i64 (cycErr cs)) ∧ Below w.heap.size w w' := by
  have H := hide h
  obtain ⟨A, cap, rfl⟩ := h.form
  clear h
  go_enter Try.func59, Try.ntmps59
  go_wp2_with (first
    | (go_at_call 49; refine (within_any _ _ _ _).mono ?_; rintro e w' ⟨rfl, rfl⟩)
    | (go_at_call 93; refine (containsCu_any _ cs _ hn H.out).mono ?_; rintro e w' ⟨rfl, hB⟩))
  all_goals
    go_ret
    exact ⟨ret_int (by first | (simp only [cycErr, cycOk, *]; done) | (simp only [cycErr, cycOk, *]; rfl)), (by repeat (first | exact Below.refl _ _ | assumption | refine Below.drew ?_ | refine Below.drewN ?_ _ | refine Below.allocT ?_ (Nat.le_refl _) _ | refine Below.setCell ?_ (by simp <;> omega) _ | refine Below.to ?_ (by assumption) (Nat.le_refl _)))⟩

theorem any_none {α : Type} (p : α → Bool) (z : α) (l : List α) (h : ∀ j, j < l.length → p (l.getD j z) = false) : l.any p = false := by
  rw [← idxI_any, idxI_none p z l h]; rfl
theorem any_at {α : Type} (p : α → Bool) (z : α) (l : List α) (k : Nat) (hk : k < l.length) (h : p (l.getD k z) = true) : l.any p = true := by
  rw [List.any_eq_true]
  refine ⟨l[k], List.getElem_mem hk, ?_⟩
  simpa [hk] using h

theorem cycled_any (v : Value) (cs : List Cu) (w : World) (hn : cs.length ≤ 20) (h : Cyc w w.heap.size v cs) :
    Calls Try.prog 61 #[v] w fun e w' => e = .returned (.bool (cycOk cs)) ∧ Below w.heap.size w w' := by
  obtain ⟨A, b, off, cap, rfl, hnc, hA, hc⟩ := h
  have HC := hide hc; clear hc
  have HA := hide hA; clear hA
  go_enter Try.func61, Try.ntmps61
  go_wp2
  go_loop [3] (fun i => ∃ k : Nat, k ≤ cs.length ∧ i = .int .i64 k ∧ Hid (∀ j, j < k → (!(cs.getD j Cu.z).ok) = false)) (fun i => cs.length - (intOf i).toNat)
  case atStart => exact ⟨0, Nat.zero_le _, rfl, fun j hj => by omega⟩
  case round =>
    obtain ⟨k, hk, rfl, hz⟩ := hrel
    by_cases hlt : k < cs.length
    · obtain ⟨c, HZ, hA1, h0, h1⟩ := cyAt (Below.refl _ w) HA.out HC.out hlt
      subst hA1
      by_cases hok : (!c.ok) = true
      · have HOK := hide hok
        clear hok
        go_wp2_with (go_at_call 52; refine (from_any _ _ _ _).mono ?_; rintro e w' ⟨rfl, rfl⟩)
        case roundEnd =>
          exfalso
          have := HOK.out
          simp_all [Cu.ok]
        all_goals
          go_ret
          exact ⟨ret_bool (by simp only [cycOk]; rw [any_at _ Cu.z cs k hlt (by rw [HZ.out]; exact HOK.out)]; simp), (by repeat (first | exact Below.refl _ _ | assumption | refine Below.drew ?_ | refine Below.drewN ?_ _ | refine Below.allocT ?_ (Nat.le_refl _) _ | refine Below.setCell ?_ (by simp <;> omega) _ | refine Below.to ?_ (by assumption) (Nat.le_refl _)))⟩
      · have hok' : (!c.ok) = false := by simpa using hok
        clear hok
        have HOK := hide hok'
        have h2 := hok'
        simp only [Cu.ok, Bool.not_eq_false', Bool.and_eq_true] at h2
        obtain ⟨ha, hs⟩ := h2
        clear hok'
        go_wp2_with (go_at_call 52; refine (from_any _ _ _ _).mono ?_; first | rw [ha] | rw [hs]; rintro e w' ⟨rfl, rfl⟩)
        go_round
        case rel => exact ⟨k + 1, by omega, by go_num, fun j hj => by
            rcases Nat.lt_or_ge j k with h | h
            · exact hz.out j h
            · rw [show j = k from by omega, HZ.out]; exact HOK.out⟩
        case measure => simp [intOf]; omega
    · go_wp2_with (go_at_call 52; refine (from_any _ _ _ _).mono ?_; rintro e w' ⟨rfl, rfl⟩)
      go_ret
      exact ⟨ret_bool (by simp only [cycOk]; rw [any_none _ Cu.z cs (fun j hj => hz.out j (by omega))]; simp), (by repeat (first | exact Below.refl _ _ | assumption | refine Below.drew ?_ | refine Below.drewN ?_ _ | refine Below.allocT ?_ (Nat.le_refl _) _ | refine Below.setCell ?_ (by simp <;> omega) _ | refine Below.to ?_ (by assumption) (Nat.le_refl _)))⟩

theorem far_any (v : Value) (A : Option Addr) (n cap : Nat) (w : World) (hv : v = .slice A n cap) (hn : n ≤ maxLen) :
    Calls Try.prog 18 #[v] w fun e w' => e = .returned (.bool (decide (20 < n))) ∧ w = w' := by
  subst hv
  unfold maxLen at hn
  go_enter Try.func18, Try.ntmps18
  go_wp2
  go_ret
  exact ⟨ret_bool (by rw [decide_eq_decide]; omega), rfl⟩

end Go.Proofs.Ytejjjijaojkohaa

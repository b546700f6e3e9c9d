/- Group S of this claim's texts: walks and plain laws. -/
import Derived.Test.YtohofcmikfkilaaRows
import Derived.Test.YtohofcmikfkilaaTCH
import Derived.Test.YtohofcmikfkilaaTCQ
import Derived.Deep.RegionHeld3
import Derived.Deep.DrawnRows
import Derived.Deep.DeepMust
/- All combinations in a list; the first variant that has one: walks of the elder program. -/
namespace Go.Proofs.Ytohofcmikfkilaa
open Go.RowKit
set_option linter.unusedVariables false
set_option linter.unusedSimpArgs false
end Go.Proofs.Ytohofcmikfkilaa
/- Combinations that no variant has, as the elder program has it: walk. -/
namespace Go.Proofs.Ytohofcmikfkilaa
open Go.RowKit
set_option linter.unusedVariables false
set_option linter.unusedSimpArgs false
theorem lksAt {w : World} {B n cap k : Nat} {A : Option Addr} {L : List Lk} (h : Lks w B (.slice A n cap) L) (hk : k < L.length) : ∃ b off, A = some ⟨b, off, none⟩ ∧ b < B ∧ w.cell? ⟨b, off + k * 4, none⟩ = some (.int .i64 (L.getD k Lk.z).a) ∧ w.cell? ⟨b, off + k * 4 + 1, none⟩ = some (.int .i64 (L.getD k Lk.z).b) ∧ w.cell? ⟨b, off + k * 4 + 2, none⟩ = some (.bool (L.getD k Lk.z).wa) ∧ w.cell? ⟨b, off + k * 4 + 3, none⟩ = some (.bool (L.getD k Lk.z).wb) := by
  obtain ⟨A', b, off, cap', he, _, hA, hc⟩ := h
  injection he with e1 _ _
  subst e1
  rcases hA with ⟨hA, hb⟩ | h0
  · exact ⟨b, off, hA, hb, hc k 0 hk (by omega), hc k 1 hk (by omega), hc k 2 hk (by omega), hc k 3 hk (by omega)⟩
  · omega
end Go.Proofs.Ytohofcmikfkilaa

/- Arguments opened: a number of 64 bits without a sign. -/
import Derived.Test.YtgjolablgcnlmaaOpen
namespace Go.Proofs.Ytgjolablgcnlmaa
set_option linter.unusedSimpArgs false
set_option linter.unusedVariables false
open Go.RowKit Go.WideShapes

theorem open_u64 {w : World} {r : Reach} {b : Nat} {t : TypeId} {P : Program} {v : Value} (ht : P.underlying t = some (.int .u64)) (hv : Value.okWide P w r b t v) : ∃ n, v = .int .u64 n ∧ 0 ≤ n ∧ n ≤ 18446744073709551615 := by
  unfold Value.okWide at hv
  rw [ht] at hv
  obtain ⟨n, rfl, h⟩ := cell_int ht hv
  exact ⟨n, rfl, h⟩
end Go.Proofs.Ytgjolablgcnlmaa

/- A timestamp by value, opened. -/
import Derived.Test.YtmngjifcgfnogaaOpen
import Derived.Test.YtmngjifcgfnogaaRows
namespace Go.Proofs.Ytmngjifcgfnogaa
set_option linter.unusedSimpArgs false
set_option linter.unusedVariables false
set_option maxRecDepth 100000
open Go.RowKit Go.WideShapes Go.ChangeShapes

set_option maxRecDepth 100000 in
theorem open_time {w : World} {r : Reach} {b : Nat} {v : Value} (hv : Value.okWide Try.prog w r b 47 v) :
    ∃ d a b c e : Int, v = .agg #[.int .i64 d, .int .i64 a, .int .i64 b, .int .i64 c, .int .i64 e] ∧ (-9223372036854775808 ≤ d ∧ d ≤ 9223372036854775807) ∧ (-9223372036854775808 ≤ a ∧ a ≤ 9223372036854775807) ∧
      (-9223372036854775808 ≤ b ∧ b ≤ 9223372036854775807) ∧ (-9223372036854775808 ≤ c ∧ c ≤ 9223372036854775807) ∧ (-9223372036854775808 ≤ e ∧ e ≤ 9223372036854775807) := by
  obtain ⟨cs, rfl, hl, hc⟩ := open_flat (ts := [3, 3, 3, 3, 3]) Try.underlying47 (by kernel_rfl) (by kernel_rfl) hv
  obtain ⟨c0, c1, c2, c3, c4, rfl⟩ := list5 hl
  obtain ⟨n0, rfl, b0⟩ := cell_int Try.underlying3 (hc 0 _ _ rfl rfl)
  obtain ⟨n1, rfl, b1⟩ := cell_int Try.underlying3 (hc 1 _ _ rfl rfl)
  obtain ⟨n2, rfl, b2⟩ := cell_int Try.underlying3 (hc 2 _ _ rfl rfl)
  obtain ⟨n3, rfl, b3⟩ := cell_int Try.underlying3 (hc 3 _ _ rfl rfl)
  obtain ⟨n4, rfl, b4⟩ := cell_int Try.underlying3 (hc 4 _ _ rfl rfl)
  exact ⟨n0, n1, n2, n3, n4, rfl, b0, b1, b2, b3, b4⟩
end Go.Proofs.Ytmngjifcgfnogaa

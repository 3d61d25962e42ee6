/- A step by value, opened. -/
import Derived.Test.YtfdgeomomafnbaaOpenTs
import Derived.Test.YtfdgeomomafnbaaHop1
namespace Go.Proofs.Ytfdgeomomafnbaa
set_option linter.unusedSimpArgs false
set_option linter.unusedVariables false
open Go.RowKit Go.WideShapes Go.ChangeShapes

theorem open_hop {w : World} {r : Reach} {b : Nat} {v : Value} (hv : Value.okWide Try.prog w r b 43 v) : ∃ h : Hp, v = .agg #[.int .i64 h.f, .int .i64 h.k, .int .i64 h.l, .int .i64 h.a, .int .i64 h.b, .int .i64 h.c, .int .i64 h.e, .int .i64 h.p, .int .i64 h.q, .int .i64 h.r, .int .i64 h.s] := by
  obtain ⟨cs, rfl, hl, hc⟩ := open_flat (ts := [3, 3, 3, 3, 3, 3, 3, 3, 3, 3, 3]) Try.underlying43 (by kernel_rfl) (by kernel_rfl) hv
  obtain ⟨c0, c1, c2, c3, c4, c5, c6, c7, c8, c9, c10, rfl⟩ := list11 hl
  obtain ⟨n0, rfl, -⟩ := cell_int Try.underlying3 (hc 0 _ _ rfl rfl)
  obtain ⟨n1, rfl, -⟩ := cell_int Try.underlying3 (hc 1 _ _ rfl rfl)
  obtain ⟨n2, rfl, -⟩ := cell_int Try.underlying3 (hc 2 _ _ rfl rfl)
  obtain ⟨n3, rfl, -⟩ := cell_int Try.underlying3 (hc 3 _ _ rfl rfl)
  obtain ⟨n4, rfl, -⟩ := cell_int Try.underlying3 (hc 4 _ _ rfl rfl)
  obtain ⟨n5, rfl, -⟩ := cell_int Try.underlying3 (hc 5 _ _ rfl rfl)
  obtain ⟨n6, rfl, -⟩ := cell_int Try.underlying3 (hc 6 _ _ rfl rfl)
  obtain ⟨n7, rfl, -⟩ := cell_int Try.underlying3 (hc 7 _ _ rfl rfl)
  obtain ⟨n8, rfl, -⟩ := cell_int Try.underlying3 (hc 8 _ _ rfl rfl)
  obtain ⟨n9, rfl, -⟩ := cell_int Try.underlying3 (hc 9 _ _ rfl rfl)
  obtain ⟨n10, rfl, -⟩ := cell_int Try.underlying3 (hc 10 _ _ rfl rfl)
  exact ⟨⟨n0, n1, n2, n3, n4, n5, n6, n7, n8, n9, n10⟩, rfl⟩
theorem open_tm {w : World} {r : Reach} {b : Nat} {v : Value} (hv : Value.okWide Try.prog w r b 29 v) : ∃ t : Tm, v = .agg #[.int .i64 t.d, .int .i64 t.a, .int .i64 t.b, .int .i64 t.c, .int .i64 t.e] := by
  obtain ⟨d, a, b, c, e, rfl, -⟩ := open_time hv
  exact ⟨⟨d, a, b, c, e⟩, rfl⟩
end Go.Proofs.Ytfdgeomomafnbaa

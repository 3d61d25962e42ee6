/- Contract of hop.at. -/
import Derived.Test.YtfdgeomomafnbaaHop2
namespace Go.Proofs.Ytfdgeomomafnbaa
set_option linter.unusedSimpArgs false
set_option linter.unusedVariables false
open Go.RowKit

/-- What a step adds, or lays, at a place. -/
def atV (h : Hp) (i : Int) : Int := if i < h.k then cAt h.a h.b h.c h.e i else cAt h.p h.q h.r h.s (i - h.k)

set_option maxHeartbeats 1000000 in
theorem hopAt_kept (f k l a b c e p q r s i : Int) (w : World) (h0 : 0 ≤ i) (h4 : i < 4) (hk : i < k) :
    Calls Try.prog 51 #[.agg #[.int .i64 f, .int .i64 k, .int .i64 l, .int .i64 a, .int .i64 b, .int .i64 c, .int .i64 e, .int .i64 p, .int .i64 q, .int .i64 r, .int .i64 s], .int .i64 i] w fun r' w' => r' = .returned (.tuple #[.int .i64 (atV ⟨f, k, l, a, b, c, e, p, q, r, s⟩ i), .bool true]) ∧ Ext w w' := by
  have hv : atV ⟨f, k, l, a, b, c, e, p, q, r, s⟩ i = cAt a b c e i := if_pos hk
  rw [hv]
  clear hv
  obtain rfl | rfl | rfl | rfl : i = 0 ∨ i = 1 ∨ i = 2 ∨ i = 3 := by omega
  all_goals
    go_enter Try.func51, Try.ntmps51
    go_wp2
    go_returns
    exact ⟨rett rfl rfl, by (repeat' (first | with_reducible exact Ext.refl _ | with_reducible refine Ext.ext ?_ _ | with_reducible refine Ext.alloc ?_ _ | with_reducible refine Ext.drew ?_ | with_reducible refine Ext.drewN ?_ _ | with_reducible assumption))⟩

set_option maxHeartbeats 1000000 in
theorem hopAt_new (f k l a b c e p q r s j : Int) (w : World) (h0 : 0 ≤ j) (h4 : j < 4) (hk : 0 ≤ k) (hk4 : k ≤ 4) :
    Calls Try.prog 51 #[.agg #[.int .i64 f, .int .i64 k, .int .i64 l, .int .i64 a, .int .i64 b, .int .i64 c, .int .i64 e, .int .i64 p, .int .i64 q, .int .i64 r, .int .i64 s], .int .i64 (k + j)] w fun r' w' => r' = .returned (.tuple #[.int .i64 (atV ⟨f, k, l, a, b, c, e, p, q, r, s⟩ (k + j)), .bool false]) ∧ Ext w w' := by
  have hv : atV ⟨f, k, l, a, b, c, e, p, q, r, s⟩ (k + j) = cAt p q r s j := by
    have h : ¬ (k + j < k) := by omega
    simp only [atV]
    rw [if_neg h, show k + j - k = j by omega]
  rw [hv]
  clear hv
  obtain rfl | rfl | rfl | rfl : j = 0 ∨ j = 1 ∨ j = 2 ∨ j = 3 := by omega
  all_goals
    rcases (show k = 0 ∨ k = 1 ∨ k = 2 ∨ k = 3 ∨ k = 4 by omega) with rfl | rfl | rfl | rfl | rfl
  all_goals
    go_enter Try.func51, Try.ntmps51
    go_wp2
    go_returns
    exact ⟨rett rfl rfl, by (repeat' (first | with_reducible exact Ext.refl _ | with_reducible refine Ext.ext ?_ _ | with_reducible refine Ext.alloc ?_ _ | with_reducible refine Ext.drew ?_ | with_reducible refine Ext.drewN ?_ _ | with_reducible assumption))⟩
end Go.Proofs.Ytfdgeomomafnbaa

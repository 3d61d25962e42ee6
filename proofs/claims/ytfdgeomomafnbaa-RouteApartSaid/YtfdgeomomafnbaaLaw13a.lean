/- law13's awake; the walk of RouteOne. -/
import Derived.Test.YtfdgeomomafnbaaRoute2
import Derived.Test.YtfdgeomomafnbaaQuiet
namespace Go.Proofs.Ytfdgeomomafnbaa
set_option linter.unusedSimpArgs false
set_option linter.unusedVariables false
open Go.RowKit

set_option maxHeartbeats 400000 in
theorem awake13 (w : World) : Calls Try.prog 14 #[] w fun r w' => r = .returned (.bool true) ∧ Ext w w' := by
  go_enter Try.func14, Try.ntmps14
  go_wp2_with (first | (go_at_call 43; refine (split_awake _ _ _ (by simp) (by simp) (by simp)).mono ?_; rintro r w' ⟨g, c2, g2, c3, rfl, ⟨x, rfl⟩, hcell⟩) | (go_at_call 15; refine (worker_in _ _ _ (by decide) (by decide) (by decide) (by decide)).mono ?_; rintro e w' ⟨rfl, rfl⟩))
  go_returns
  exact ⟨retb rfl rfl, by (repeat' (first | with_reducible exact Ext.refl _ | with_reducible refine Ext.ext ?_ _ | with_reducible refine Ext.alloc ?_ _ | with_reducible refine Ext.drew ?_ | with_reducible refine Ext.drewN ?_ _ | with_reducible assumption))⟩

theorem worker_ways (k n : Int) (h : 1 ≤ n) : 0 ≤ k % n ∧ k % n < n ∧ (k.tmod n = k % n ∨ (k.tmod n ≠ k % n ∧ k.tmod n + n = k % n)) := by
  have h0 := Int.emod_nonneg k (show n ≠ 0 by omega)
  have h1 := Int.emod_lt_of_pos k (show 0 < n by omega)
  refine ⟨h0, h1, ?_⟩
  have hm := tmod_mod k n h
  obtain ⟨h2, h3⟩ := tmod_bd k n h
  by_cases hs : 0 ≤ k.tmod n
  · left
    rw [← hm, Int.add_emod_right, Int.emod_eq_of_lt hs h3]
  · right
    have : (k.tmod n + n) % n = k.tmod n + n := Int.emod_eq_of_lt (by omega) (by omega)
    omega

theorem walk_RouteOne (k : Int) (hk : -9223372036854775808 ≤ k ∧ k ≤ 9223372036854775807) (n : Int) (hn : -9223372036854775808 ≤ n ∧ n ≤ 9223372036854775807) (w : World) :
    Calls Try.prog 3 #[.int .i64 k, .int .i64 n] w fun r w' => r = .returned (.bool true) ∧ Ext w w' := by
  obtain ⟨k1, k2⟩ := hk
  by_cases h : n < 1 ∨ 64 < n
  · go_enter Try.func3, Try.ntmps3
    go_wp2_with (first | (go_at_call 14; refine (awake13 _).mono ?_; rintro r w' ⟨rfl, x, rfl⟩) | (go_at_call 15; refine (worker_out _ _ _ h).mono ?_; rintro e w' ⟨rfl, rfl⟩))
    all_goals first | (go_returns; exact ⟨retb rfl rfl, by (repeat' (first | with_reducible exact Ext.refl _ | with_reducible refine Ext.ext ?_ _ | with_reducible refine Ext.alloc ?_ _ | with_reducible refine Ext.drew ?_ | with_reducible refine Ext.drewN ?_ _ | with_reducible assumption))⟩) | (exfalso; omega)
  · have n1 : 1 ≤ n := by omega
    have n2 : n ≤ 64 := by omega
    obtain ⟨h0, h1, h2⟩ := worker_ways k n n1
    obtain ⟨b1, b2⟩ := tmod_bd k n n1
    have N2 := Lib.hid n2
    have e1 : decide (n < 1) = false := decide_eq_false (by omega)
    have e2 : decide (64 < n) = false := decide_eq_false (by omega)
    clear h
    rcases h2 with h2 | ⟨h2, h3⟩
    all_goals
      go_enter Try.func3, Try.ntmps3
      go_wp2_with (first | (go_at_call 14; refine (awake13 _).mono ?_; rintro r w' ⟨rfl, x, rfl⟩) | (go_at_call 15; refine (worker_in _ _ _ n1 N2.out k1 k2).mono ?_; rintro e w' ⟨rfl, rfl⟩))
      all_goals first | (go_returns; refine ⟨retb rfl ?_, by (repeat' (first | with_reducible exact Ext.refl _ | with_reducible refine Ext.ext ?_ _ | with_reducible refine Ext.alloc ?_ _ | with_reducible refine Ext.drew ?_ | with_reducible refine Ext.drewN ?_ _ | with_reducible assumption))⟩; simp_all; done) | (exfalso; omega)
end Go.Proofs.Ytfdgeomomafnbaa

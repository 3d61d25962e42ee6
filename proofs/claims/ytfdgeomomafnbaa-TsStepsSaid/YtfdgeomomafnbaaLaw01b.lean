/- The statement TsSteps: its walk. -/
import Derived.Test.YtfdgeomomafnbaaLaw01a
namespace Go.Proofs.Ytfdgeomomafnbaa
open Go.RowKit

set_option maxHeartbeats 400000 in
theorem walk_TsSteps (d a b c e : Int) (_ : -9223372036854775808 ≤ d ∧ d ≤ 9223372036854775807) (_ : -9223372036854775808 ≤ a ∧ a ≤ 9223372036854775807) (_ : -9223372036854775808 ≤ b ∧ b ≤ 9223372036854775807) (_ : -9223372036854775808 ≤ c ∧ c ≤ 9223372036854775807) (_ : -9223372036854775808 ≤ e ∧ e ≤ 9223372036854775807) (w : World) :
    Calls Try.prog 5 #[.agg #[.int .i64 d, .int .i64 a, .int .i64 b, .int .i64 c, .int .i64 e]] w fun r w' => r = .returned (.bool true) ∧ Ext w w' := by
  go_enter Try.func5, Try.ntmps5
  go_wp2_with (first | (go_at_call 16; refine (awake01 _).mono ?_; rintro r w' ⟨rfl, x, rfl⟩) | (go_at_call 17; refine (enter_any _ _ _ _ _ _).mono ?_; rintro r w' ⟨rfl, x, rfl⟩) | (go_at_call 19; refine (leave_any _ _ _ _ _ _).mono ?_; rintro r w' ⟨rfl, x, rfl⟩) | (go_at_call 20; refine (next_any _ _ _ _ _ _).mono ?_; rintro r w' ⟨rfl, x, rfl⟩) | (go_at_call 18; (with_reducible refine (step_enter_any _ _ _ _ _ _).mono ?_); rintro r w' ⟨rfl, x, rfl⟩) | (go_at_call 18; (with_reducible refine (step_leave_any _ _ _ _ _ _).mono ?_); rintro r w' ⟨rfl, x, rfl⟩) | (go_at_call 18; (with_reducible refine (step_next_any _ _ _ _ _ _).mono ?_); rintro r w' ⟨rfl, x, rfl⟩))
  go_returns
  exact ⟨retb rfl rfl, by (repeat' (first | with_reducible exact Ext.refl _ | with_reducible refine Ext.ext ?_ _ | with_reducible refine Ext.alloc ?_ _ | with_reducible refine Ext.drew ?_ | with_reducible refine Ext.drewN ?_ _ | with_reducible assumption))⟩
end Go.Proofs.Ytfdgeomomafnbaa

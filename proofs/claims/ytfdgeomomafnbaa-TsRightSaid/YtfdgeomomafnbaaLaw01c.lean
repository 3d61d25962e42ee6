/- The statement TsRight: its walk. -/
import Derived.Test.YtfdgeomomafnbaaRef1f
import Derived.Test.YtfdgeomomafnbaaLaw01a
import Derived.Test.YtfdgeomomafnbaaQuiet
namespace Go.Proofs.Ytfdgeomomafnbaa
set_option linter.unusedSimpArgs false
set_option linter.unusedVariables false
open Go.RowKit

set_option maxHeartbeats 1000000 in
theorem walk_TsRight (d a b c e : Int) (_ : -9223372036854775808 ≤ d ∧ d ≤ 9223372036854775807) (_ : -9223372036854775808 ≤ a ∧ a ≤ 9223372036854775807) (_ : -9223372036854775808 ≤ b ∧ b ≤ 9223372036854775807) (_ : -9223372036854775808 ≤ c ∧ c ≤ 9223372036854775807) (_ : -9223372036854775808 ≤ e ∧ e ≤ 9223372036854775807) (d' a' b' c' e' : Int) (_ : -9223372036854775808 ≤ d' ∧ d' ≤ 9223372036854775807) (_ : -9223372036854775808 ≤ a' ∧ a' ≤ 9223372036854775807) (_ : -9223372036854775808 ≤ b' ∧ b' ≤ 9223372036854775807) (_ : -9223372036854775808 ≤ c' ∧ c' ≤ 9223372036854775807) (_ : -9223372036854775808 ≤ e' ∧ e' ≤ 9223372036854775807) (w : World) :
    Calls Try.prog 7 #[.agg #[.int .i64 d, .int .i64 a, .int .i64 b, .int .i64 c, .int .i64 e], .agg #[.int .i64 d', .int .i64 a', .int .i64 b', .int .i64 c', .int .i64 e']] w fun r w' => r = .returned (.bool true) ∧ Ext w w' := by
  cases hr : rightB ⟨d, a, b, c, e⟩
  all_goals
    have HR := Lib.hid hr
    go_enter Try.func7, Try.ntmps7
    go_wp2_with (first | (go_at_call 22; refine (list_no _ _ _ _ _ _ HR.out).mono ?_; rintro r w' ⟨rfl, x, rfl⟩) | (go_at_call 22; refine (list_yes _ _ _ _ _ _ HR.out).mono ?_; rintro r w' ⟨g, cap, rfl, ⟨x, rfl⟩, ho⟩; clear ho) | (go_at_call 16; refine (awake01 _).mono ?_; rintro r w' ⟨rfl, x, rfl⟩) | (go_at_call 25; ((with_reducible refine (right_any _ _ _ _ _ _).mono ?_); rintro r w' ⟨rfl, x, rfl⟩)) | (go_at_call 21; ((with_reducible refine (le_any _ _ _ _ _ _ _ _ _ _ _).mono ?_); rintro r w' ⟨rfl, x, rfl⟩)) | (go_at_call 28; ((with_reducible refine (less_any _ _ _ _ _ _ _ _ _ _ _).mono ?_); rintro r w' ⟨rfl, x, rfl⟩)) | (go_at_call 23; ((with_reducible refine (join_any _ _ _ _ _ _ _ _ _ _ _).mono ?_); rintro r w' ⟨rfl, x, rfl⟩)) | (go_at_call 26; ((with_reducible refine (meet_any _ _ _ _ _ _ _ _ _ _ _).mono ?_); rintro r w' ⟨rfl, x, rfl⟩)) | (go_at_call 27; ((with_reducible refine (ref_le_any _ _ _ _ _ _ _ _ _ _ _).mono ?_); rintro r w' ⟨rfl, x, rfl⟩)) | (go_at_call 29; ((with_reducible refine (ref_less_any _ _ _ _ _ _ _ _ _ _ _).mono ?_); rintro r w' ⟨rfl, x, rfl⟩)) | (go_at_call 24; ((with_reducible refine (ref_join_any _ _ _ _ _ _ _ _ _ _ _).mono ?_); rintro r w' ⟨rfl, x, rfl⟩)) | (go_at_call 24; ((with_reducible refine (ref_meet_any _ _ _ _ _ _ _ _ _ _ _).mono ?_); rintro r w' ⟨rfl, x, rfl⟩)))
    refine wp_region_ext (by kernel_rfl) (by kernel_rfl) ?_
    repeat (go_big_quiet_step (first | (go_at_call 21; exact quiet_of (le_any _ _ _ _ _ _ _ _ _ _ _) (fun w' hx => by (obtain ⟨z, rfl⟩ := hx; (try simp only [ext_ext, add_assoc]); exact ⟨_, rfl⟩))) | (go_at_call 28; exact quiet_of (less_any _ _ _ _ _ _ _ _ _ _ _) (fun w' hx => by (obtain ⟨z, rfl⟩ := hx; (try simp only [ext_ext, add_assoc]); exact ⟨_, rfl⟩))) | (go_at_call 27; exact quiet_of (ref_le_any _ _ _ _ _ _ _ _ _ _ _) (fun w' hx => by (obtain ⟨z, rfl⟩ := hx; (try simp only [ext_ext, add_assoc]); exact ⟨_, rfl⟩))) | (go_at_call 29; exact quiet_of (ref_less_any _ _ _ _ _ _ _ _ _ _ _) (fun w' hx => by (obtain ⟨z, rfl⟩ := hx; (try simp only [ext_ext, add_assoc]); exact ⟨_, rfl⟩)))))
    refine wpQuiet_nil ?_
    intro xK
    go_wp2
    go_returns
    exact ⟨retb rfl rfl, by (repeat' (first | with_reducible exact Ext.refl _ | with_reducible refine Ext.ext ?_ _ | with_reducible refine Ext.alloc ?_ _ | with_reducible refine Ext.drew ?_ | with_reducible refine Ext.drewN ?_ _ | with_reducible assumption))⟩
end Go.Proofs.Ytfdgeomomafnbaa

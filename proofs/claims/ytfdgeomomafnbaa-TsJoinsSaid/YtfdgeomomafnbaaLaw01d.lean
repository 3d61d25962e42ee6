/- The statement TsJoins: its walk. -/
import Derived.Test.YtfdgeomomafnbaaTsLaw
import Derived.Test.YtfdgeomomafnbaaLaw01a
import Derived.Test.YtfdgeomomafnbaaQuiet
namespace Go.Proofs.Ytfdgeomomafnbaa
set_option linter.unusedSimpArgs false
set_option linter.unusedVariables false
open Go.RowKit

set_option maxHeartbeats 4000000 in
theorem walk_TsJoins (d a b c e : Int) (_ : -9223372036854775808 ≤ d ∧ d ≤ 9223372036854775807) (_ : -9223372036854775808 ≤ a ∧ a ≤ 9223372036854775807) (_ : -9223372036854775808 ≤ b ∧ b ≤ 9223372036854775807) (_ : -9223372036854775808 ≤ c ∧ c ≤ 9223372036854775807) (_ : -9223372036854775808 ≤ e ∧ e ≤ 9223372036854775807) (d' a' b' c' e' : Int) (_ : -9223372036854775808 ≤ d' ∧ d' ≤ 9223372036854775807) (_ : -9223372036854775808 ≤ a' ∧ a' ≤ 9223372036854775807) (_ : -9223372036854775808 ≤ b' ∧ b' ≤ 9223372036854775807) (_ : -9223372036854775808 ≤ c' ∧ c' ≤ 9223372036854775807) (_ : -9223372036854775808 ≤ e' ∧ e' ≤ 9223372036854775807) (d2 a2 b2 c2 e2 : Int) (_ : -9223372036854775808 ≤ d2 ∧ d2 ≤ 9223372036854775807) (_ : -9223372036854775808 ≤ a2 ∧ a2 ≤ 9223372036854775807) (_ : -9223372036854775808 ≤ b2 ∧ b2 ≤ 9223372036854775807) (_ : -9223372036854775808 ≤ c2 ∧ c2 ≤ 9223372036854775807) (_ : -9223372036854775808 ≤ e2 ∧ e2 ≤ 9223372036854775807) (w : World) :
    Calls Try.prog 8 #[.agg #[.int .i64 d, .int .i64 a, .int .i64 b, .int .i64 c, .int .i64 e], .agg #[.int .i64 d', .int .i64 a', .int .i64 b', .int .i64 c', .int .i64 e'], .agg #[.int .i64 d2, .int .i64 a2, .int .i64 b2, .int .i64 c2, .int .i64 e2]] w fun r w' => r = .returned (.bool true) ∧ Ext w w' := by
  cases hb : bothB ⟨d, a, b, c, e⟩ ⟨d', a', b', c', e'⟩
  · go_enter Try.func8, Try.ntmps8
    go_wp2_with (first | (go_at_call 16; refine (awake01 _).mono ?_; rintro r w' ⟨rfl, x, rfl⟩) | (go_at_call 23; refine (join_no _ _ _ _ _ _ _ _ _ _ _ hb).mono ?_; rintro r w' ⟨rfl, x, rfl⟩) | (go_at_call 26; refine (meet_no _ _ _ _ _ _ _ _ _ _ _ hb).mono ?_; rintro r w' ⟨rfl, x, rfl⟩))
    go_returns
    exact ⟨retb rfl rfl, by (repeat' (first | with_reducible exact Ext.refl _ | with_reducible refine Ext.ext ?_ _ | with_reducible refine Ext.alloc ?_ _ | with_reducible refine Ext.drew ?_ | with_reducible refine Ext.drewN ?_ _ | with_reducible assumption))⟩
  · obtain ⟨j1, j2, j3, j4⟩ := joins _ _ hb
    have y1 := le_join _ _ ⟨d2, a2, b2, c2, e2⟩ hb
    have y2 := meet_le _ _ ⟨d2, a2, b2, c2, e2⟩ hb
    have HB := Lib.hid hb
    have J1 := Lib.hid j1
    have J2 := Lib.hid j2
    have J3 := Lib.hid j3
    have J4 := Lib.hid j4
    clear hb j1 j2 j3 j4
    cases x1 : leB ⟨d, a, b, c, e⟩ ⟨d2, a2, b2, c2, e2⟩ <;> cases x2 : leB ⟨d', a', b', c', e'⟩ ⟨d2, a2, b2, c2, e2⟩ <;> cases x3 : leB ⟨d2, a2, b2, c2, e2⟩ ⟨d, a, b, c, e⟩ <;> cases x4 : leB ⟨d2, a2, b2, c2, e2⟩ ⟨d', a', b', c', e'⟩
    all_goals
      rw [x1, x2] at y1
      rw [x3, x4] at y2
      simp only [Bool.and_true, Bool.and_false] at y1 y2
      have X1 := Lib.hid x1
      have X2 := Lib.hid x2
      have X3 := Lib.hid x3
      have X4 := Lib.hid x4
      have Y1 := Lib.hid y1
      have Y2 := Lib.hid y2
      clear x1 x2 x3 x4 y1 y2
      go_enter Try.func8, Try.ntmps8
      go_wp2_with (first | (go_at_call 16; refine (awake01 _).mono ?_; rintro r w' ⟨rfl, x, rfl⟩) | (go_at_call 23; refine (join_yes _ _ _ _ _ _ _ _ _ _ _ HB.out).mono ?_; rintro r w' ⟨rfl, x, rfl⟩) | (go_at_call 26; refine (meet_yes _ _ _ _ _ _ _ _ _ _ _ HB.out).mono ?_; rintro r w' ⟨rfl, x, rfl⟩) | (go_at_call 21; ((with_reducible refine (le_eq J1.out _).mono ?_); rintro r w' ⟨rfl, x, rfl⟩)) | (go_at_call 21; ((with_reducible refine (le_eq J2.out _).mono ?_); rintro r w' ⟨rfl, x, rfl⟩)) | (go_at_call 21; ((with_reducible refine (le_eq J3.out _).mono ?_); rintro r w' ⟨rfl, x, rfl⟩)) | (go_at_call 21; ((with_reducible refine (le_eq J4.out _).mono ?_); rintro r w' ⟨rfl, x, rfl⟩)))
      refine wp_region_ext (by kernel_rfl) (by kernel_rfl) ?_
      repeat (go_big_quiet_step (first | (go_at_call 21; (apply quiet_of; (with_reducible exact le_eq X1.out _); (intro w' hx; obtain ⟨z, rfl⟩ := hx; (try simp only [ext_ext, add_assoc]); exact ⟨_, rfl⟩))) | (go_at_call 21; (apply quiet_of; (with_reducible exact le_eq X2.out _); (intro w' hx; obtain ⟨z, rfl⟩ := hx; (try simp only [ext_ext, add_assoc]); exact ⟨_, rfl⟩))) | (go_at_call 21; (apply quiet_of; (with_reducible exact le_eq X3.out _); (intro w' hx; obtain ⟨z, rfl⟩ := hx; (try simp only [ext_ext, add_assoc]); exact ⟨_, rfl⟩))) | (go_at_call 21; (apply quiet_of; (with_reducible exact le_eq X4.out _); (intro w' hx; obtain ⟨z, rfl⟩ := hx; (try simp only [ext_ext, add_assoc]); exact ⟨_, rfl⟩))) | (go_at_call 21; (apply quiet_of; (with_reducible exact le_eq Y1.out _); (intro w' hx; obtain ⟨z, rfl⟩ := hx; (try simp only [ext_ext, add_assoc]); exact ⟨_, rfl⟩))) | (go_at_call 21; (apply quiet_of; (with_reducible exact le_eq Y2.out _); (intro w' hx; obtain ⟨z, rfl⟩ := hx; (try simp only [ext_ext, add_assoc]); exact ⟨_, rfl⟩)))))
      refine wpQuiet_nil ?_
      intro xK
      go_wp2
      go_returns
      exact ⟨retb rfl rfl, by (repeat' (first | with_reducible exact Ext.refl _ | with_reducible refine Ext.ext ?_ _ | with_reducible refine Ext.alloc ?_ _ | with_reducible refine Ext.drew ?_ | with_reducible refine Ext.drewN ?_ _ | with_reducible assumption))⟩
end Go.Proofs.Ytfdgeomomafnbaa

/- Contracts of ts.both and ts.Le. -/
import Derived.Test.YtmngjifcgfnogaaTs1
namespace Go.Proofs.Ytmngjifcgfnogaa
set_option linter.unusedSimpArgs false
set_option linter.unusedVariables false
set_option maxRecDepth 100000
open Go.RowKit

def bothB (s t : Tm) : Bool := rightB s && (rightB t && decide (s.d = t.d))

theorem both_any (d a b c e d' a' b' c' e' : Int) (w : World) :
    Calls Try.prog 78 #[.agg #[.int .i64 d, .int .i64 a, .int .i64 b, .int .i64 c, .int .i64 e], .agg #[.int .i64 d', .int .i64 a', .int .i64 b', .int .i64 c', .int .i64 e']] w
      fun r w' => r = .returned (.bool (bothB ⟨d, a, b, c, e⟩ ⟨d', a', b', c', e'⟩)) ∧ Ext w w' := by
  cases h1 : rightB ⟨d, a, b, c, e⟩ <;> cases h2 : rightB ⟨d', a', b', c', e'⟩
  all_goals
    go_enter Try.func78, Try.ntmps78
    go_wp2_with (go_at_call 20; refine (right_any _ _ _ _ _ _).mono ?_; rintro r w' ⟨rfl, x, rfl⟩)
    go_returns
    refine ⟨retb rfl ?_, by (repeat' (first | with_reducible exact Ext.refl _ | with_reducible refine Ext.ext ?_ _ | with_reducible refine Ext.alloc ?_ _ | with_reducible refine Ext.drew ?_ | with_reducible refine Ext.drewN ?_ _ | with_reducible assumption))⟩
    simp [bothB, h1, h2]
  rfl

/-- A timestamp's coordinate by its place. -/
def Tm.at (t : Tm) (k : Int) : Int := cAt t.a t.b t.c t.e k
def leB (s t : Tm) : Bool := bothB s t && decide (s.a ≤ t.a ∧ s.b ≤ t.b ∧ s.c ≤ t.c ∧ s.e ≤ t.e)

set_option maxHeartbeats 400000 in
theorem le_any (d a b c e d' a' b' c' e' : Int) (w : World) :
    Calls Try.prog 47 #[.agg #[.int .i64 d, .int .i64 a, .int .i64 b, .int .i64 c, .int .i64 e], .agg #[.int .i64 d', .int .i64 a', .int .i64 b', .int .i64 c', .int .i64 e']] w
      fun r w' => r = .returned (.bool (leB ⟨d, a, b, c, e⟩ ⟨d', a', b', c', e'⟩)) ∧ Ext w w' := by
  cases h1 : bothB ⟨d, a, b, c, e⟩ ⟨d', a', b', c', e'⟩
  · go_enter Try.func47, Try.ntmps47
    go_wp2_with (go_at_call 78; refine (both_any _ _ _ _ _ _ _ _ _ _ _).mono ?_; rintro r w' ⟨rfl, x, rfl⟩)
    go_returns
    exact ⟨retb rfl (by simp [leB, h1]), by (repeat' (first | with_reducible exact Ext.refl _ | with_reducible refine Ext.ext ?_ _ | with_reducible refine Ext.alloc ?_ _ | with_reducible refine Ext.drew ?_ | with_reducible refine Ext.drewN ?_ _ | with_reducible assumption))⟩
  · go_enter Try.func47, Try.ntmps47
    go_wp2_with (go_at_call 78; refine (both_any _ _ _ _ _ _ _ _ _ _ _).mono ?_; rintro r w' ⟨rfl, x, rfl⟩)
    refine wp_loop_rounds 5 ?_
    iterate 4
      rw [rounds_succ]
      go_wp2
      refine wp_region_ext (by kernel_rfl) (by kernel_rfl) ?_
      repeat (go_big_quiet_step (fail))
      refine wpQuiet_nil ?_
      intro xK
      go_wp2
      · go_returns
        exact ⟨retb rfl (by simp only [leB]; symm; rw [decide_eq_false (by omega)]; simp), by (repeat' (first | with_reducible exact Ext.refl _ | with_reducible refine Ext.ext ?_ _ | with_reducible refine Ext.alloc ?_ _ | with_reducible refine Ext.drew ?_ | with_reducible refine Ext.drewN ?_ _ | with_reducible assumption))⟩
    rw [rounds_succ]
    go_wp2
    go_returns
    exact ⟨retb rfl (by simp only [leB, h1]; symm; rw [decide_eq_true (by omega)]; rfl), by (repeat' (first | with_reducible exact Ext.refl _ | with_reducible refine Ext.ext ?_ _ | with_reducible refine Ext.alloc ?_ _ | with_reducible refine Ext.drew ?_ | with_reducible refine Ext.drewN ?_ _ | with_reducible assumption))⟩
end Go.Proofs.Ytmngjifcgfnogaa

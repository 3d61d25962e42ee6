/- Contract of ts.Less. -/
import Derived.Test.YtmngjifcgfnogaaTs2
namespace Go.Proofs.Ytmngjifcgfnogaa
set_option linter.unusedSimpArgs false
set_option linter.unusedVariables false
set_option maxRecDepth 100000
open Go.RowKit

/-- The first coordinates of two, the first that differ decide. -/
def lessC (s t : Tm) (n : Int) : Option Bool :=
  if n ≤ 0 then none else if (s.a != t.a) = true then some (decide (s.a < t.a)) else
  if n ≤ 1 then none else if (s.b != t.b) = true then some (decide (s.b < t.b)) else
  if n ≤ 2 then none else if (s.c != t.c) = true then some (decide (s.c < t.c)) else
  if n ≤ 3 then none else if (s.e != t.e) = true then some (decide (s.e < t.e)) else none
def lessB (s t : Tm) : Bool := rightB s && (rightB t && (lessC s t (min s.d t.d)).getD (decide (s.d < t.d)))

theorem less_out (d a b c e d' a' b' c' e' : Int) (w : World) (h : (rightB ⟨d, a, b, c, e⟩ && rightB ⟨d', a', b', c', e'⟩) = false) :
    Calls Try.prog 50 #[.agg #[.int .i64 d, .int .i64 a, .int .i64 b, .int .i64 c, .int .i64 e], .agg #[.int .i64 d', .int .i64 a', .int .i64 b', .int .i64 c', .int .i64 e']] w
      fun r w' => r = .returned (.bool (lessB ⟨d, a, b, c, e⟩ ⟨d', a', b', c', e'⟩)) ∧ Ext w w' := by
  cases h1 : rightB ⟨d, a, b, c, e⟩ <;> cases h2 : rightB ⟨d', a', b', c', e'⟩
  case true.true => simp [h1, h2] at h
  all_goals
    clear h
    go_enter Try.func50, Try.ntmps50
    go_wp2_with (go_at_call 20; refine (right_any _ _ _ _ _ _).mono ?_; rintro r w' ⟨rfl, x, rfl⟩)
    go_returns
    exact ⟨retb rfl (by simp [lessB, h1, h2]), by (repeat' (first | with_reducible exact Ext.refl _ | with_reducible refine Ext.ext ?_ _ | with_reducible refine Ext.alloc ?_ _ | with_reducible refine Ext.drew ?_ | with_reducible refine Ext.drewN ?_ _ | with_reducible assumption))⟩

theorem rightB_d {t : Tm} (h : rightB t = true) : 1 ≤ t.d ∧ t.d ≤ 4 := by
  simp only [rightB, Bool.and_eq_true, decide_eq_true_eq] at h
  exact h.1

set_option maxHeartbeats 1000000 in
theorem less_le (d a b c e d' a' b' c' e' : Int) (w : World) (h1 : rightB ⟨d, a, b, c, e⟩ = true) (h2 : rightB ⟨d', a', b', c', e'⟩ = true) (hm : d ≤ d') :
    Calls Try.prog 50 #[.agg #[.int .i64 d, .int .i64 a, .int .i64 b, .int .i64 c, .int .i64 e], .agg #[.int .i64 d', .int .i64 a', .int .i64 b', .int .i64 c', .int .i64 e']] w
      fun r w' => r = .returned (.bool (lessB ⟨d, a, b, c, e⟩ ⟨d', a', b', c', e'⟩)) ∧ Ext w w' := by
  obtain ⟨p1, p2⟩ : 1 ≤ d ∧ d ≤ 4 := rightB_d h1
  obtain ⟨q1, q2⟩ : 1 ≤ d' ∧ d' ≤ 4 := rightB_d h2
  have hl : lessB ⟨d, a, b, c, e⟩ ⟨d', a', b', c', e'⟩ = (lessC ⟨d, a, b, c, e⟩ ⟨d', a', b', c', e'⟩ d).getD (decide (d < d')) := by simp only [lessB, h1, h2, Bool.true_and]; rw [show min d d' = d by omega]
  have HL := Lib.hid hl
  clear hl
  go_enter Try.func50, Try.ntmps50
  go_wp2_with (go_at_call 20; refine (right_any _ _ _ _ _ _).mono ?_; rintro r w' ⟨rfl, x, rfl⟩)
  refine wp_loop_rounds 5 ?_
  rw [rounds_succ]
  go_wp2
  refine wp_region_ext (by kernel_rfl) (by kernel_rfl) ?_
  repeat (go_big_quiet_step (fail))
  refine wpQuiet_nil ?_
  intro xK
  go_wp2
  · refine wp_region_ext (by kernel_rfl) (by kernel_rfl) ?_
    repeat (go_big_quiet_step (fail))
    refine wpQuiet_nil ?_
    intro xK
    go_wp2
    go_returns
    exact ⟨retb rfl (by rw [HL.out]; simp only [lessC]; (repeat' split) <;> first | rfl | (exfalso; omega) | (simp_all; done)), by (repeat' (first | with_reducible exact Ext.refl _ | with_reducible refine Ext.ext ?_ _ | with_reducible refine Ext.alloc ?_ _ | with_reducible refine Ext.drew ?_ | with_reducible refine Ext.drewN ?_ _ | with_reducible assumption))⟩
  iterate 3
    rw [rounds_succ]
    go_wp2
    rotate_left
    · go_returns
      exact ⟨retb rfl (by rw [HL.out]; simp only [lessC]; (repeat' split) <;> first | rfl | (exfalso; omega) | (simp_all; done)), by (repeat' (first | with_reducible exact Ext.refl _ | with_reducible refine Ext.ext ?_ _ | with_reducible refine Ext.alloc ?_ _ | with_reducible refine Ext.drew ?_ | with_reducible refine Ext.drewN ?_ _ | with_reducible assumption))⟩
    refine wp_region_ext (by kernel_rfl) (by kernel_rfl) ?_
    repeat (go_big_quiet_step (fail))
    refine wpQuiet_nil ?_
    intro xK
    go_wp2
    · refine wp_region_ext (by kernel_rfl) (by kernel_rfl) ?_
      repeat (go_big_quiet_step (fail))
      refine wpQuiet_nil ?_
      intro xK
      go_wp2
      go_returns
      exact ⟨retb rfl (by rw [HL.out]; simp only [lessC]; (repeat' split) <;> first | rfl | (exfalso; omega) | (simp_all; done)), by (repeat' (first | with_reducible exact Ext.refl _ | with_reducible refine Ext.ext ?_ _ | with_reducible refine Ext.alloc ?_ _ | with_reducible refine Ext.drew ?_ | with_reducible refine Ext.drewN ?_ _ | with_reducible assumption))⟩
  rw [rounds_succ]
  go_wp2
  go_returns
  exact ⟨retb rfl (by rw [HL.out]; simp only [lessC]; (repeat' split) <;> first | rfl | (exfalso; omega) | (simp_all; done)), by (repeat' (first | with_reducible exact Ext.refl _ | with_reducible refine Ext.ext ?_ _ | with_reducible refine Ext.alloc ?_ _ | with_reducible refine Ext.drew ?_ | with_reducible refine Ext.drewN ?_ _ | with_reducible assumption))⟩

set_option maxHeartbeats 1000000 in
theorem less_gt (d a b c e d' a' b' c' e' : Int) (w : World) (h1 : rightB ⟨d, a, b, c, e⟩ = true) (h2 : rightB ⟨d', a', b', c', e'⟩ = true) (hm : d' < d) :
    Calls Try.prog 50 #[.agg #[.int .i64 d, .int .i64 a, .int .i64 b, .int .i64 c, .int .i64 e], .agg #[.int .i64 d', .int .i64 a', .int .i64 b', .int .i64 c', .int .i64 e']] w
      fun r w' => r = .returned (.bool (lessB ⟨d, a, b, c, e⟩ ⟨d', a', b', c', e'⟩)) ∧ Ext w w' := by
  obtain ⟨p1, p2⟩ : 1 ≤ d ∧ d ≤ 4 := rightB_d h1
  obtain ⟨q1, q2⟩ : 1 ≤ d' ∧ d' ≤ 4 := rightB_d h2
  have hl : lessB ⟨d, a, b, c, e⟩ ⟨d', a', b', c', e'⟩ = (lessC ⟨d, a, b, c, e⟩ ⟨d', a', b', c', e'⟩ d').getD (decide (d < d')) := by simp only [lessB, h1, h2, Bool.true_and]; rw [show min d d' = d' by omega]
  have HL := Lib.hid hl
  clear hl
  go_enter Try.func50, Try.ntmps50
  go_wp2_with (go_at_call 20; refine (right_any _ _ _ _ _ _).mono ?_; rintro r w' ⟨rfl, x, rfl⟩)
  refine wp_loop_rounds 5 ?_
  rw [rounds_succ]
  go_wp2
  refine wp_region_ext (by kernel_rfl) (by kernel_rfl) ?_
  repeat (go_big_quiet_step (fail))
  refine wpQuiet_nil ?_
  intro xK
  go_wp2
  · refine wp_region_ext (by kernel_rfl) (by kernel_rfl) ?_
    repeat (go_big_quiet_step (fail))
    refine wpQuiet_nil ?_
    intro xK
    go_wp2
    go_returns
    exact ⟨retb rfl (by rw [HL.out]; simp only [lessC]; (repeat' split) <;> first | rfl | (exfalso; omega) | (simp_all; done)), by (repeat' (first | with_reducible exact Ext.refl _ | with_reducible refine Ext.ext ?_ _ | with_reducible refine Ext.alloc ?_ _ | with_reducible refine Ext.drew ?_ | with_reducible refine Ext.drewN ?_ _ | with_reducible assumption))⟩
  iterate 2
    rw [rounds_succ]
    go_wp2
    rotate_left
    · go_returns
      exact ⟨retb rfl (by rw [HL.out]; simp only [lessC]; (repeat' split) <;> first | rfl | (exfalso; omega) | (simp_all; done)), by (repeat' (first | with_reducible exact Ext.refl _ | with_reducible refine Ext.ext ?_ _ | with_reducible refine Ext.alloc ?_ _ | with_reducible refine Ext.drew ?_ | with_reducible refine Ext.drewN ?_ _ | with_reducible assumption))⟩
    refine wp_region_ext (by kernel_rfl) (by kernel_rfl) ?_
    repeat (go_big_quiet_step (fail))
    refine wpQuiet_nil ?_
    intro xK
    go_wp2
    · refine wp_region_ext (by kernel_rfl) (by kernel_rfl) ?_
      repeat (go_big_quiet_step (fail))
      refine wpQuiet_nil ?_
      intro xK
      go_wp2
      go_returns
      exact ⟨retb rfl (by rw [HL.out]; simp only [lessC]; (repeat' split) <;> first | rfl | (exfalso; omega) | (simp_all; done)), by (repeat' (first | with_reducible exact Ext.refl _ | with_reducible refine Ext.ext ?_ _ | with_reducible refine Ext.alloc ?_ _ | with_reducible refine Ext.drew ?_ | with_reducible refine Ext.drewN ?_ _ | with_reducible assumption))⟩
  rw [rounds_succ]
  go_wp2
  go_returns
  exact ⟨retb rfl (by rw [HL.out]; simp only [lessC]; (repeat' split) <;> first | rfl | (exfalso; omega) | (simp_all; done)), by (repeat' (first | with_reducible exact Ext.refl _ | with_reducible refine Ext.ext ?_ _ | with_reducible refine Ext.alloc ?_ _ | with_reducible refine Ext.drew ?_ | with_reducible refine Ext.drewN ?_ _ | with_reducible assumption))⟩
theorem less_any (d a b c e d' a' b' c' e' : Int) (w : World) :
    Calls Try.prog 50 #[.agg #[.int .i64 d, .int .i64 a, .int .i64 b, .int .i64 c, .int .i64 e], .agg #[.int .i64 d', .int .i64 a', .int .i64 b', .int .i64 c', .int .i64 e']] w
      fun r w' => r = .returned (.bool (lessB ⟨d, a, b, c, e⟩ ⟨d', a', b', c', e'⟩)) ∧ Ext w w' := by
  by_cases h1 : rightB ⟨d, a, b, c, e⟩ = true
  · by_cases h2 : rightB ⟨d', a', b', c', e'⟩ = true
    · by_cases hm : d ≤ d'
      · exact less_le _ _ _ _ _ _ _ _ _ _ w h1 h2 hm
      · exact less_gt _ _ _ _ _ _ _ _ _ _ w h1 h2 (by omega)
    · exact less_out _ _ _ _ _ _ _ _ _ _ w (by simp [h2])
  · exact less_out _ _ _ _ _ _ _ _ _ _ w (by simp [h1])
end Go.Proofs.Ytmngjifcgfnogaa

/- hop.Apply at keep 1, whatever the tail. -/
import Derived.Test.YtkmgdejpdhlleaaHop6
namespace Go.Proofs.Ytkmgdejpdhlleaa
set_option linter.unusedSimpArgs false
set_option linter.unusedVariables false
set_option maxRecDepth 100000
open Go.RowKit

set_option maxHeartbeats 4000000 in
theorem hopApply_10 (f a b c e p q r s t1 t2 t3 t4 : Int) (w : World) (v : Bool) (hx : hopB ⟨f, 1, 0, a, b, c, e, p, q, r, s⟩ = true) (hy : rightB ⟨f, t1, t2, t3, t4⟩ = true) (hz : rightB ⟨1, t1 + a, 0, 0, 0⟩ = v) :
    Calls Try.prog 36 #[.agg #[.int .i64 f, .int .i64 1, .int .i64 0, .int .i64 a, .int .i64 b, .int .i64 c, .int .i64 e, .int .i64 p, .int .i64 q, .int .i64 r, .int .i64 s], .agg #[.int .i64 f, .int .i64 t1, .int .i64 t2, .int .i64 t3, .int .i64 t4]] w fun o w' => o = .returned (.tuple #[if v then .agg #[.int .i64 1, .int .i64 (t1 + a), .int .i64 (0), .int .i64 (0), .int .i64 (0)] else tv tz, .bool v]) ∧ Ext w w' := by
  have z0 := apply_wrap hx hy 0 (by decide)
  have r1 := fun w => hopRight_any f 1 0 a b c e p q r s w
  have r2 := fun w => right_any f t1 t2 t3 t4 w
  have r3 := fun w => right_any 1 (t1 + a) (0) (0) (0) w
  have g1 := fun w => gives_in f 1 0 a b c e p q r s w (by decide) (by decide) (by decide) (by decide)
  rw [hx] at r1
  rw [hy] at r2
  rw [hz] at r3
  have R1 := Lib.hid r1
  have R2 := Lib.hid r2
  have R3 := Lib.hid r3
  have G1 := Lib.hid g1
  clear r1 r2 r3 g1 hx hy hz
  change wrap64 (t1 + a) = t1 + a at z0
  go_enter Try.func36, Try.ntmps36
  go_wp2_with (first | (go_at_call 40; ((with_reducible refine (R1.out _).mono ?_); rintro o w' ⟨rfl, u, rfl⟩)) | (go_at_call 33; ((with_reducible refine (R2.out _).mono ?_); rintro o w' ⟨rfl, u, rfl⟩)) | (go_at_call 94; ((with_reducible refine (G1.out _).mono ?_); rintro o w' ⟨rfl, u, rfl⟩)) | (go_at_call 33; ((with_reducible refine (R3.out _).mono ?_); rintro o w' ⟨rfl, u, rfl⟩)))
  refine wp_loop_rounds 2 ?_
  rw [rounds_succ]
  go_wp2
  go_region
  go_wp2
  rw [rounds_succ]
  go_wp2
  go_region_law (refine step_copy_run (by rfl) _ _ _ _ (by rfl) _ _ (by rfl) (by rfl) _ _ (run_copy_none _ _ _ _ 3 _ _ _ _ _ _ Try.underlying47 (by kernel_rfl) (by simp)) ?_)
  all_goals
    cases v
    all_goals
      go_wp2_with (first | (go_at_call 40; ((with_reducible refine (R1.out _).mono ?_); rintro o w' ⟨rfl, u, rfl⟩)) | (go_at_call 33; ((with_reducible refine (R2.out _).mono ?_); rintro o w' ⟨rfl, u, rfl⟩)) | (go_at_call 94; ((with_reducible refine (G1.out _).mono ?_); rintro o w' ⟨rfl, u, rfl⟩)) | (go_at_call 33; ((with_reducible refine (R3.out _).mono ?_); rintro o w' ⟨rfl, u, rfl⟩)))
      go_returns
      exact ⟨rett rfl rfl, by (repeat' (first | with_reducible exact Ext.refl _ | with_reducible refine Ext.ext ?_ _ | with_reducible refine Ext.alloc ?_ _ | with_reducible refine Ext.drew ?_ | with_reducible refine Ext.drewN ?_ _ | with_reducible assumption))⟩

set_option maxHeartbeats 4000000 in
theorem hopApply_11 (f a b c e p q r s t1 t2 t3 t4 : Int) (w : World) (v : Bool) (hx : hopB ⟨f, 1, 1, a, b, c, e, p, q, r, s⟩ = true) (hy : rightB ⟨f, t1, t2, t3, t4⟩ = true) (hz : rightB ⟨2, t1 + a, p, 0, 0⟩ = v) :
    Calls Try.prog 36 #[.agg #[.int .i64 f, .int .i64 1, .int .i64 1, .int .i64 a, .int .i64 b, .int .i64 c, .int .i64 e, .int .i64 p, .int .i64 q, .int .i64 r, .int .i64 s], .agg #[.int .i64 f, .int .i64 t1, .int .i64 t2, .int .i64 t3, .int .i64 t4]] w fun o w' => o = .returned (.tuple #[if v then .agg #[.int .i64 2, .int .i64 (t1 + a), .int .i64 (p), .int .i64 (0), .int .i64 (0)] else tv tz, .bool v]) ∧ Ext w w' := by
  have z0 := apply_wrap hx hy 0 (by decide)
  have r1 := fun w => hopRight_any f 1 1 a b c e p q r s w
  have r2 := fun w => right_any f t1 t2 t3 t4 w
  have r3 := fun w => right_any 2 (t1 + a) (p) (0) (0) w
  have g1 := fun w => gives_in f 1 1 a b c e p q r s w (by decide) (by decide) (by decide) (by decide)
  rw [hx] at r1
  rw [hy] at r2
  rw [hz] at r3
  have R1 := Lib.hid r1
  have R2 := Lib.hid r2
  have R3 := Lib.hid r3
  have G1 := Lib.hid g1
  clear r1 r2 r3 g1 hx hy hz
  change wrap64 (t1 + a) = t1 + a at z0
  go_enter Try.func36, Try.ntmps36
  go_wp2_with (first | (go_at_call 40; ((with_reducible refine (R1.out _).mono ?_); rintro o w' ⟨rfl, u, rfl⟩)) | (go_at_call 33; ((with_reducible refine (R2.out _).mono ?_); rintro o w' ⟨rfl, u, rfl⟩)) | (go_at_call 94; ((with_reducible refine (G1.out _).mono ?_); rintro o w' ⟨rfl, u, rfl⟩)) | (go_at_call 33; ((with_reducible refine (R3.out _).mono ?_); rintro o w' ⟨rfl, u, rfl⟩)))
  refine wp_loop_rounds 2 ?_
  rw [rounds_succ]
  go_wp2
  go_region
  go_wp2
  rw [rounds_succ]
  go_wp2
  go_region_law (refine step_copy_run (by rfl) _ _ _ _ (by rfl) _ _ (by rfl) (by rfl) _ _ (run_copy1 _ _ _ 3 _ _ _ _ _ _ _ Try.underlying47 (by kernel_rfl) (.int .i64 p) (.int .i64 0) (by decide) (by simp [go_sem]) (by simp [go_sem]) (by simp [go_sem]) (by simp [Value.oneCell'])) ?_)
  all_goals
    cases v
    all_goals
      go_wp2_with (first | (go_at_call 40; ((with_reducible refine (R1.out _).mono ?_); rintro o w' ⟨rfl, u, rfl⟩)) | (go_at_call 33; ((with_reducible refine (R2.out _).mono ?_); rintro o w' ⟨rfl, u, rfl⟩)) | (go_at_call 94; ((with_reducible refine (G1.out _).mono ?_); rintro o w' ⟨rfl, u, rfl⟩)) | (go_at_call 33; ((with_reducible refine (R3.out _).mono ?_); rintro o w' ⟨rfl, u, rfl⟩)))
      go_returns
      exact ⟨rett rfl rfl, by (repeat' (first | with_reducible exact Ext.refl _ | with_reducible refine Ext.ext ?_ _ | with_reducible refine Ext.alloc ?_ _ | with_reducible refine Ext.drew ?_ | with_reducible refine Ext.drewN ?_ _ | with_reducible assumption))⟩

set_option maxHeartbeats 4000000 in
theorem hopApply_12 (f a b c e p q r s t1 t2 t3 t4 : Int) (w : World) (v : Bool) (hx : hopB ⟨f, 1, 2, a, b, c, e, p, q, r, s⟩ = true) (hy : rightB ⟨f, t1, t2, t3, t4⟩ = true) (hz : rightB ⟨3, t1 + a, p, q, 0⟩ = v) :
    Calls Try.prog 36 #[.agg #[.int .i64 f, .int .i64 1, .int .i64 2, .int .i64 a, .int .i64 b, .int .i64 c, .int .i64 e, .int .i64 p, .int .i64 q, .int .i64 r, .int .i64 s], .agg #[.int .i64 f, .int .i64 t1, .int .i64 t2, .int .i64 t3, .int .i64 t4]] w fun o w' => o = .returned (.tuple #[if v then .agg #[.int .i64 3, .int .i64 (t1 + a), .int .i64 (p), .int .i64 (q), .int .i64 (0)] else tv tz, .bool v]) ∧ Ext w w' := by
  have z0 := apply_wrap hx hy 0 (by decide)
  have r1 := fun w => hopRight_any f 1 2 a b c e p q r s w
  have r2 := fun w => right_any f t1 t2 t3 t4 w
  have r3 := fun w => right_any 3 (t1 + a) (p) (q) (0) w
  have g1 := fun w => gives_in f 1 2 a b c e p q r s w (by decide) (by decide) (by decide) (by decide)
  rw [hx] at r1
  rw [hy] at r2
  rw [hz] at r3
  have R1 := Lib.hid r1
  have R2 := Lib.hid r2
  have R3 := Lib.hid r3
  have G1 := Lib.hid g1
  clear r1 r2 r3 g1 hx hy hz
  change wrap64 (t1 + a) = t1 + a at z0
  go_enter Try.func36, Try.ntmps36
  go_wp2_with (first | (go_at_call 40; ((with_reducible refine (R1.out _).mono ?_); rintro o w' ⟨rfl, u, rfl⟩)) | (go_at_call 33; ((with_reducible refine (R2.out _).mono ?_); rintro o w' ⟨rfl, u, rfl⟩)) | (go_at_call 94; ((with_reducible refine (G1.out _).mono ?_); rintro o w' ⟨rfl, u, rfl⟩)) | (go_at_call 33; ((with_reducible refine (R3.out _).mono ?_); rintro o w' ⟨rfl, u, rfl⟩)))
  refine wp_loop_rounds 2 ?_
  rw [rounds_succ]
  go_wp2
  go_region
  go_wp2
  rw [rounds_succ]
  go_wp2
  go_region_law (refine step_copy_run (by rfl) _ _ _ _ (by rfl) _ _ (by rfl) (by rfl) _ _ (run_copy2 _ _ _ 3 _ _ _ _ _ _ _ Try.underlying47 (by kernel_rfl) (.int .i64 p) (.int .i64 q) (.int .i64 0) (.int .i64 0) (by decide) (by simp [go_sem]) (by simp [go_sem]) (by simp [go_sem]) (by simp [go_sem]) (by simp [go_sem]) (by simp [go_sem]) (by simp [Value.oneCell']) (by simp [Value.oneCell'])) ?_)
  all_goals
    cases v
    all_goals
      go_wp2_with (first | (go_at_call 40; ((with_reducible refine (R1.out _).mono ?_); rintro o w' ⟨rfl, u, rfl⟩)) | (go_at_call 33; ((with_reducible refine (R2.out _).mono ?_); rintro o w' ⟨rfl, u, rfl⟩)) | (go_at_call 94; ((with_reducible refine (G1.out _).mono ?_); rintro o w' ⟨rfl, u, rfl⟩)) | (go_at_call 33; ((with_reducible refine (R3.out _).mono ?_); rintro o w' ⟨rfl, u, rfl⟩)))
      go_returns
      exact ⟨rett rfl rfl, by (repeat' (first | with_reducible exact Ext.refl _ | with_reducible refine Ext.ext ?_ _ | with_reducible refine Ext.alloc ?_ _ | with_reducible refine Ext.drew ?_ | with_reducible refine Ext.drewN ?_ _ | with_reducible assumption))⟩

set_option maxHeartbeats 4000000 in
theorem hopApply_13 (f a b c e p q r s t1 t2 t3 t4 : Int) (w : World) (v : Bool) (hx : hopB ⟨f, 1, 3, a, b, c, e, p, q, r, s⟩ = true) (hy : rightB ⟨f, t1, t2, t3, t4⟩ = true) (hz : rightB ⟨4, t1 + a, p, q, r⟩ = v) :
    Calls Try.prog 36 #[.agg #[.int .i64 f, .int .i64 1, .int .i64 3, .int .i64 a, .int .i64 b, .int .i64 c, .int .i64 e, .int .i64 p, .int .i64 q, .int .i64 r, .int .i64 s], .agg #[.int .i64 f, .int .i64 t1, .int .i64 t2, .int .i64 t3, .int .i64 t4]] w fun o w' => o = .returned (.tuple #[if v then .agg #[.int .i64 4, .int .i64 (t1 + a), .int .i64 (p), .int .i64 (q), .int .i64 (r)] else tv tz, .bool v]) ∧ Ext w w' := by
  have z0 := apply_wrap hx hy 0 (by decide)
  have r1 := fun w => hopRight_any f 1 3 a b c e p q r s w
  have r2 := fun w => right_any f t1 t2 t3 t4 w
  have r3 := fun w => right_any 4 (t1 + a) (p) (q) (r) w
  have g1 := fun w => gives_in f 1 3 a b c e p q r s w (by decide) (by decide) (by decide) (by decide)
  rw [hx] at r1
  rw [hy] at r2
  rw [hz] at r3
  have R1 := Lib.hid r1
  have R2 := Lib.hid r2
  have R3 := Lib.hid r3
  have G1 := Lib.hid g1
  clear r1 r2 r3 g1 hx hy hz
  change wrap64 (t1 + a) = t1 + a at z0
  go_enter Try.func36, Try.ntmps36
  go_wp2_with (first | (go_at_call 40; ((with_reducible refine (R1.out _).mono ?_); rintro o w' ⟨rfl, u, rfl⟩)) | (go_at_call 33; ((with_reducible refine (R2.out _).mono ?_); rintro o w' ⟨rfl, u, rfl⟩)) | (go_at_call 94; ((with_reducible refine (G1.out _).mono ?_); rintro o w' ⟨rfl, u, rfl⟩)) | (go_at_call 33; ((with_reducible refine (R3.out _).mono ?_); rintro o w' ⟨rfl, u, rfl⟩)))
  refine wp_loop_rounds 2 ?_
  rw [rounds_succ]
  go_wp2
  go_region
  go_wp2
  rw [rounds_succ]
  go_wp2
  go_region_law (refine step_copy_run (by rfl) _ _ _ _ (by rfl) _ _ (by rfl) (by rfl) _ _ (run_copy3 _ _ _ 3 _ _ _ _ _ _ _ Try.underlying47 (by kernel_rfl) (.int .i64 p) (.int .i64 q) (.int .i64 r) (.int .i64 0) (.int .i64 0) (.int .i64 0) (by decide) (by simp [go_sem]) (by simp [go_sem]) (by simp [go_sem]) (by simp [go_sem]) (by simp [go_sem]) (by simp [go_sem]) (by simp [go_sem]) (by simp [go_sem]) (by simp [go_sem]) (by simp [Value.oneCell']) (by simp [Value.oneCell']) (by simp [Value.oneCell'])) ?_)
  all_goals
    cases v
    all_goals
      go_wp2_with (first | (go_at_call 40; ((with_reducible refine (R1.out _).mono ?_); rintro o w' ⟨rfl, u, rfl⟩)) | (go_at_call 33; ((with_reducible refine (R2.out _).mono ?_); rintro o w' ⟨rfl, u, rfl⟩)) | (go_at_call 94; ((with_reducible refine (G1.out _).mono ?_); rintro o w' ⟨rfl, u, rfl⟩)) | (go_at_call 33; ((with_reducible refine (R3.out _).mono ?_); rintro o w' ⟨rfl, u, rfl⟩)))
      go_returns
      exact ⟨rett rfl rfl, by (repeat' (first | with_reducible exact Ext.refl _ | with_reducible refine Ext.ext ?_ _ | with_reducible refine Ext.alloc ?_ _ | with_reducible refine Ext.drew ?_ | with_reducible refine Ext.drewN ?_ _ | with_reducible assumption))⟩
end Go.Proofs.Ytkmgdejpdhlleaa

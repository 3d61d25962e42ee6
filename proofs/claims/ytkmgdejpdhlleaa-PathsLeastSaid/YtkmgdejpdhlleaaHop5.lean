/- hop.Apply: where it answers no at its first line. -/
import Derived.Test.YtkmgdejpdhlleaaHop4
import Derived.Test.YtkmgdejpdhlleaaQuiet
import Derived.Test.YtkmgdejpdhlleaaTs1
namespace Go.Proofs.Ytkmgdejpdhlleaa
set_option linter.unusedSimpArgs false
set_option linter.unusedVariables false
set_option maxRecDepth 100000
open Go.RowKit

set_option maxHeartbeats 1000000 in
theorem hopApply_out (f k l a b c e p q r s d t1 t2 t3 t4 : Int) (w : World) (h : ¬ (hopB ⟨f, k, l, a, b, c, e, p, q, r, s⟩ = true ∧ rightB ⟨d, t1, t2, t3, t4⟩ = true ∧ d = f)) :
    Calls Try.prog 36 #[.agg #[.int .i64 f, .int .i64 k, .int .i64 l, .int .i64 a, .int .i64 b, .int .i64 c, .int .i64 e, .int .i64 p, .int .i64 q, .int .i64 r, .int .i64 s], .agg #[.int .i64 d, .int .i64 t1, .int .i64 t2, .int .i64 t3, .int .i64 t4]] w fun o w' => o = .returned (.tuple #[tv tz, .bool false]) ∧ Ext w w' := by
  have r1 := fun w => hopRight_any f k l a b c e p q r s w
  have r2 := fun w => right_any d t1 t2 t3 t4 w
  cases hx : hopB ⟨f, k, l, a, b, c, e, p, q, r, s⟩
  · rw [hx] at r1
    have R1 := Lib.hid r1
    clear r1 r2 hx h
    go_enter Try.func36, Try.ntmps36
    go_wp2_with (first | (go_at_call 40; ((with_reducible refine (R1.out _).mono ?_); rintro o w' ⟨rfl, u, rfl⟩)))
    go_returns
    exact ⟨rett rfl rfl, by (repeat' (first | with_reducible exact Ext.refl _ | with_reducible refine Ext.ext ?_ _ | with_reducible refine Ext.alloc ?_ _ | with_reducible refine Ext.drew ?_ | with_reducible refine Ext.drewN ?_ _ | with_reducible assumption))⟩
  · cases hy : rightB ⟨d, t1, t2, t3, t4⟩
    · rw [hx] at r1
      rw [hy] at r2
      have R1 := Lib.hid r1
      have R2 := Lib.hid r2
      clear r1 r2 hx hy h
      go_enter Try.func36, Try.ntmps36
      go_wp2_with (first | (go_at_call 40; ((with_reducible refine (R1.out _).mono ?_); rintro o w' ⟨rfl, u, rfl⟩)) | (go_at_call 33; ((with_reducible refine (R2.out _).mono ?_); rintro o w' ⟨rfl, u, rfl⟩)))
      go_returns
      exact ⟨rett rfl rfl, by (repeat' (first | with_reducible exact Ext.refl _ | with_reducible refine Ext.ext ?_ _ | with_reducible refine Ext.alloc ?_ _ | with_reducible refine Ext.drew ?_ | with_reducible refine Ext.drewN ?_ _ | with_reducible assumption))⟩
    · have hne : d ≠ f := fun he => h ⟨hx, hy, he⟩
      have hb : (d == f) = false := by simpa using hne
      have hb2 : (d != f) = true := by simpa using hne
      rw [hx] at r1
      rw [hy] at r2
      have R1 := Lib.hid r1
      have R2 := Lib.hid r2
      clear r1 r2 hx hy h
      go_enter Try.func36, Try.ntmps36
      go_wp2_with (first | (go_at_call 40; ((with_reducible refine (R1.out _).mono ?_); rintro o w' ⟨rfl, u, rfl⟩)) | (go_at_call 33; ((with_reducible refine (R2.out _).mono ?_); rintro o w' ⟨rfl, u, rfl⟩)))
      go_returns
      exact ⟨rett rfl rfl, by (repeat' (first | with_reducible exact Ext.refl _ | with_reducible refine Ext.ext ?_ _ | with_reducible refine Ext.alloc ?_ _ | with_reducible refine Ext.drew ?_ | with_reducible refine Ext.drewN ?_ _ | with_reducible assumption))⟩
end Go.Proofs.Ytkmgdejpdhlleaa

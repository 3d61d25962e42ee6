/- law 14: equality of messages. -/
import Derived.Test.YtlhmifkimnmnmaaTy
import Derived.Laws.StructEq
namespace Go.Proofs.Ytlhmifkimnmnmaa.Dp
set_option linter.unusedSimpArgs false
set_option linter.unusedVariables false
open Go.RowKit

set_option maxHeartbeats 4000000 in
theorem eqin23 (d : Nat) (w : World) (x0 : Int) (x1 : Int) (x2 : Int) (x3 : Int) (y0 : Int) (y1 : Int) (y2 : Int) (y3 : Int) : (Op.equalIn (d + 2) 23 (.agg #[Value.int .i64 x0, Value.int .i64 x1, Value.int .i64 x2, Value.int .i64 x3]) (.agg #[Value.int .i64 y0, Value.int .i64 y1, Value.int .i64 y2, Value.int .i64 y3])).run Try.prog w = .ok ((((x0 == y0) && (x1 == y1)) && (x2 == y2)) && (x3 == y3)) w := by
  have qa3 : ∀ w, (isAgg 3).run Try.prog w = .ok false w := fun w => by rfl
  have qs3 : ∀ w, (sizeOf 3).run Try.prog w = .ok 1 w := fun w => by rfl
  have e0 := run_equalIn_int (P := Try.prog) w d 3 .i64 .i64 x0 y0 Try.underlying3
  have e1 := run_equalIn_int (P := Try.prog) w d 3 .i64 .i64 x1 y1 Try.underlying3
  have e2 := run_equalIn_int (P := Try.prog) w d 3 .i64 .i64 x2 y2 Try.underlying3
  have e3 := run_equalIn_int (P := Try.prog) w d 3 .i64 .i64 x3 y3 Try.underlying3
  cases h0 : (x0 == y0) <;> cases h1 : (x1 == y1) <;> cases h2 : (x2 == y2) <;> cases h3 : (x3 == y3)
  all_goals
    rw [h0] at e0
    rw [h1] at e1
    rw [h2] at e2
    rw [h3] at e3
    rw [Op.equalIn]
    simp only [Sem.run_bind, run_underlying Try.underlying23, Result.andThen_ok]
    simp [Std.Legacy.Range.forIn_eq_forIn_range', List.range'_succ, List.range', part, qa3, qs3, e0, e1, e2, e3]
set_option maxHeartbeats 4000000 in
theorem eqin25 (d : Nat) (w : World) (x0 : Int) (x1 : Int) (x2 : Int) (x3 : Int) (x4 : Int) (y0 : Int) (y1 : Int) (y2 : Int) (y3 : Int) (y4 : Int) : (Op.equalIn (d + 3) 25 (.agg #[Value.int .i64 x0, Value.int .i64 x1, Value.int .i64 x2, Value.int .i64 x3, Value.int .i64 x4]) (.agg #[Value.int .i64 y0, Value.int .i64 y1, Value.int .i64 y2, Value.int .i64 y3, Value.int .i64 y4])).run Try.prog w = .ok ((x0 == y0) && ((((x1 == y1) && (x2 == y2)) && (x3 == y3)) && (x4 == y4))) w := by
  rw [run_equalIn_struct (ht := by kernel_rfl) (hp := by kernel_rfl)]
  have qa3 : ∀ w, (isAgg 3).run Try.prog w = .ok false w := fun w => by rfl
  have qs3 : ∀ w, (sizeOf 3).run Try.prog w = .ok 1 w := fun w => by rfl
  have qa23 : ∀ w, (isAgg 23).run Try.prog w = .ok true w := fun w => by rfl
  have qs23 : ∀ w, (sizeOf 23).run Try.prog w = .ok 4 w := fun w => by rfl
  have e0 := run_equalIn_int (P := Try.prog) w (d + 1) 3 .i64 .i64 x0 y0 Try.underlying3
  have e1 := eqin23 d w x1 x2 x3 x4 y1 y2 y3 y4
  cases h0 : (x0 == y0) <;> cases h1 : ((((x1 == y1) && (x2 == y2)) && (x3 == y3)) && (x4 == y4))
  all_goals
    rw [h0] at e0
    rw [h1] at e1
    simp [Program.fieldsOf, Try.underlying25, Op.eqFields, part, qa3, qa23, qs3, qs23, e0, e1]
set_option maxHeartbeats 4000000 in
theorem eqin27 (d : Nat) (w : World) (x0 : Int) (x1 : Int) (y0 : Int) (y1 : Int) : (Op.equalIn (d + 2) 27 (.agg #[Value.int .i64 x0, Value.int .i64 x1]) (.agg #[Value.int .i64 y0, Value.int .i64 y1])).run Try.prog w = .ok ((x0 == y0) && (x1 == y1)) w := by
  rw [run_equalIn_struct (ht := by kernel_rfl) (hp := by kernel_rfl)]
  have qa2 : ∀ w, (isAgg 2).run Try.prog w = .ok false w := fun w => by rfl
  have qs2 : ∀ w, (sizeOf 2).run Try.prog w = .ok 1 w := fun w => by rfl
  have e0 := run_equalIn_int (P := Try.prog) w d 2 .i64 .i64 x0 y0 Try.underlying2
  have e1 := run_equalIn_int (P := Try.prog) w d 2 .i64 .i64 x1 y1 Try.underlying2
  cases h0 : (x0 == y0) <;> cases h1 : (x1 == y1)
  all_goals
    rw [h0] at e0
    rw [h1] at e1
    simp [Program.fieldsOf, Try.underlying27, Op.eqFields, part, qa2, qs2, e0, e1]
set_option maxHeartbeats 4000000 in
theorem eqin29 (d : Nat) (w : World) (x0 : Int) (x1 : Int) (x2 : Int) (x3 : Int) (x4 : Int) (x5 : Int) (x6 : Int) (x7 : Int) (x8 : Int) (x9 : Int) (y0 : Int) (y1 : Int) (y2 : Int) (y3 : Int) (y4 : Int) (y5 : Int) (y6 : Int) (y7 : Int) (y8 : Int) (y9 : Int) : (Op.equalIn (d + 4) 29 (.agg #[Value.int .i64 x0, Value.int .i64 x1, Value.int .i64 x2, Value.int .i64 x3, Value.int .i64 x4, Value.int .i64 x5, Value.int .i64 x6, Value.int .i64 x7, Value.int .i64 x8, Value.int .i64 x9]) (.agg #[Value.int .i64 y0, Value.int .i64 y1, Value.int .i64 y2, Value.int .i64 y3, Value.int .i64 y4, Value.int .i64 y5, Value.int .i64 y6, Value.int .i64 y7, Value.int .i64 y8, Value.int .i64 y9])).run Try.prog w = .ok (((((x0 == y0) && ((x1 == y1) && ((((x2 == y2) && (x3 == y3)) && (x4 == y4)) && (x5 == y5)))) && ((x6 == y6) && (x7 == y7))) && (x8 == y8)) && (x9 == y9)) w := by
  rw [run_equalIn_struct (ht := by kernel_rfl) (hp := by kernel_rfl)]
  have qa3 : ∀ w, (isAgg 3).run Try.prog w = .ok false w := fun w => by rfl
  have qs3 : ∀ w, (sizeOf 3).run Try.prog w = .ok 1 w := fun w => by rfl
  have qa25 : ∀ w, (isAgg 25).run Try.prog w = .ok true w := fun w => by rfl
  have qs25 : ∀ w, (sizeOf 25).run Try.prog w = .ok 5 w := fun w => by rfl
  have qa27 : ∀ w, (isAgg 27).run Try.prog w = .ok true w := fun w => by rfl
  have qs27 : ∀ w, (sizeOf 27).run Try.prog w = .ok 2 w := fun w => by rfl
  have e0 := run_equalIn_int (P := Try.prog) w (d + 2) 3 .i64 .i64 x0 y0 Try.underlying3
  have e1 := eqin25 d w x1 x2 x3 x4 x5 y1 y2 y3 y4 y5
  have e2 := eqin27 (d + 1) w x6 x7 y6 y7
  have e3 := run_equalIn_int (P := Try.prog) w (d + 2) 3 .i64 .i64 x8 y8 Try.underlying3
  have e4 := run_equalIn_int (P := Try.prog) w (d + 2) 3 .i64 .i64 x9 y9 Try.underlying3
  cases h0 : (x0 == y0) <;> cases h1 : ((x1 == y1) && ((((x2 == y2) && (x3 == y3)) && (x4 == y4)) && (x5 == y5))) <;> cases h2 : ((x6 == y6) && (x7 == y7)) <;> cases h3 : (x8 == y8) <;> cases h4 : (x9 == y9)
  all_goals
    rw [h0] at e0
    rw [h1] at e1
    rw [h2] at e2
    rw [h3] at e3
    rw [h4] at e4
    simp [Program.fieldsOf, Try.underlying29, Op.eqFields, part, qa3, qa25, qa27, qs3, qs25, qs27, e0, e1, e2, e3, e4]
theorem eqok29 (x0 : Int) (x1 : Int) (x2 : Int) (x3 : Int) (x4 : Int) (x5 : Int) (x6 : Int) (x7 : Int) (x8 : Int) (x9 : Int) (y0 : Int) (y1 : Int) (y2 : Int) (y3 : Int) (y4 : Int) (y5 : Int) (y6 : Int) (y7 : Int) (y8 : Int) (y9 : Int) : EqOk Try.prog 29 [D.int .i64 x0, D.int .i64 x1, D.int .i64 x2, D.int .i64 x3, D.int .i64 x4, D.int .i64 x5, D.int .i64 x6, D.int .i64 x7, D.int .i64 x8, D.int .i64 x9] [D.int .i64 y0, D.int .i64 y1, D.int .i64 y2, D.int .i64 y3, D.int .i64 y4, D.int .i64 y5, D.int .i64 y6, D.int .i64 y7, D.int .i64 y8, D.int .i64 y9] := by
  intro A w us vs x y hu hv
  obtain rfl : us = #[Value.int .i64 x0, Value.int .i64 x1, Value.int .i64 x2, Value.int .i64 x3, Value.int .i64 x4, Value.int .i64 x5, Value.int .i64 x6, Value.int .i64 x7, Value.int .i64 x8, Value.int .i64 x9] := flatU hu
  obtain rfl : vs = #[Value.int .i64 y0, Value.int .i64 y1, Value.int .i64 y2, Value.int .i64 y3, Value.int .i64 y4, Value.int .i64 y5, Value.int .i64 y6, Value.int .i64 y7, Value.int .i64 y8, Value.int .i64 y9] := flatU hv
  have hg : Try.prog.eqGuardType Try.prog.depth 29 = false := by kernel_rfl
  refine ⟨run_eqGuard_agg w _ _ x y _ _ hg, run_eqGuard_agg w _ _ x y _ _ hg, ?_⟩
  have h := eqin29 9996 w x0 x1 x2 x3 x4 x5 x6 x7 x8 x9 y0 y1 y2 y3 y4 y5 y6 y7 y8 y9
  refine Eq.trans (b := _) h ?_
  congr 1
  simp only [eqF, Bool.and_assoc, Bool.and_true, beq_self_eq_true, Bool.true_and]

end Go.Proofs.Ytlhmifkimnmnmaa.Dp

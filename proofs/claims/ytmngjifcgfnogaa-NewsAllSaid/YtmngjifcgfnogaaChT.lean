/- Chain: equality of timestamps as laws of the walk. -/
import Derived.Test.YtmngjifcgfnogaaChF
import Derived.Test.YtmngjifcgfnogaaEqTs
namespace Go.Proofs.Ytmngjifcgfnogaa
set_option linter.unusedSimpArgs false
set_option linter.unusedVariables false
set_option maxRecDepth 100000
open Go.RowKit
theorem eq_time (d : Nat) (w : World) (x a b c e x' a' b' c' e' : Int) : (Op.equalIn (d + 3) 47 (.agg #[.int .i64 x, .int .i64 a, .int .i64 b, .int .i64 c, .int .i64 e]) (.agg #[.int .i64 x', .int .i64 a', .int .i64 b', .int .i64 c', .int .i64 e'])).run Try.prog w = .ok (x == x' && (a == a' && (b == b' && (c == c' && e == e')))) w := by
  rw [run_equalIn_struct (ht := by kernel_rfl) (hp := by kernel_rfl)]
  have q1 : ∀ w, (isAgg 45).run Try.prog w = .ok true w := fun w => by rfl
  have q2 : ∀ w, (isAgg 3).run Try.prog w = .ok false w := fun w => by rfl
  have q3 : ∀ w, (sizeOf 45).run Try.prog w = .ok 4 w := fun w => by rfl
  have q4 : ∀ w, (sizeOf 3).run Try.prog w = .ok 1 w := fun w => by rfl
  have e1 := equalIn_arr4 w d a b c e a' b' c' e'
  have e2 : (Op.equalIn (d + 2) 3 (.int .i64 x) (.int .i64 x')).run Try.prog w = .ok (x == x') w := run_equalIn_int w (d + 1) 3 .i64 .i64 x x' Try.underlying3
  cases h1 : (a == a' && (b == b' && (c == c' && e == e'))) <;> cases h2 : x == x' <;> rw [h1] at e1 <;> rw [h2] at e2 <;> simp [Program.fieldsOf, Try.underlying47, Op.eqFields, part, q1, q2, q3, q4, e1, e2]
theorem guard_time : Try.prog.eqGuardType Try.prog.depth 47 = false := by kernel_rfl
@[go_sem high] theorem same_time (w : World) (x a b c e x' a' b' c' e' : Int) : (Op.equalIn 10000 47 (.agg #[.int .i64 x, .int .i64 a, .int .i64 b, .int .i64 c, .int .i64 e]) (.agg #[.int .i64 x', .int .i64 a', .int .i64 b', .int .i64 c', .int .i64 e'])).run Try.prog w = .ok (x == x' && (a == a' && (b == b' && (c == c' && e == e')))) w := eq_time 9997 w x a b c e x' a' b' c' e'
@[go_sem high] theorem gd_time (op : BinOp) (x y : Operand) (xs ys : Array Value) (w : World) : (eqGuard op 47 x y (.agg xs) (.agg ys)).run Try.prog w = .ok () w := run_eqGuard_agg w op _ x y xs ys guard_time
@[go_sem high] theorem neq_time (w : World) (x a b c e x' a' b' c' e' : Int) : (binOp .neq 47 (.agg #[.int .i64 x, .int .i64 a, .int .i64 b, .int .i64 c, .int .i64 e]) (.agg #[.int .i64 x', .int .i64 a', .int .i64 b', .int .i64 c', .int .i64 e'])).run Try.prog w = .ok (.bool (!(x == x' && (a == a' && (b == b' && (c == c' && e == e')))))) w := by
  rw [run_neq_struct, same_time]; rfl
@[go_sem high] theorem eql_time (w : World) (x a b c e x' a' b' c' e' : Int) : (binOp .eql 47 (.agg #[.int .i64 x, .int .i64 a, .int .i64 b, .int .i64 c, .int .i64 e]) (.agg #[.int .i64 x', .int .i64 a', .int .i64 b', .int .i64 c', .int .i64 e'])).run Try.prog w = .ok (.bool (x == x' && (a == a' && (b == b' && (c == c' && e == e'))))) w := by
  rw [run_eql_struct, same_time]; rfl
end Go.Proofs.Ytmngjifcgfnogaa

/- Bag: equality of records and of items. -/
import Derived.Test.YtbglfaomebokhaaBgD
import Derived.Laws.StructEq
namespace Go.Proofs.Ytbglfaomebokhaa
set_option linter.unusedSimpArgs false
set_option linter.unusedVariables false
open Go.RowKit
theorem eq_int (d : Nat) (w : World) (t : TypeId) (ht : Try.prog.underlying t = some (.int .i64)) (a b : Int) : (Op.equalIn (d + 1) t (.int .i64 a) (.int .i64 b)).run Try.prog w = .ok (a == b) w := run_equalIn_int w d t .i64 .i64 a b ht
theorem eq_rec (d : Nat) (w : World) (a b a' b' : Int) : (Op.equalIn (d + 2) 28 (.agg #[.int .i64 a, .int .i64 b]) (.agg #[.int .i64 a', .int .i64 b'])).run Try.prog w = .ok (a == a' && b == b') w := by
  rw [run_equalIn_struct (ht := by kernel_rfl) (hp := by kernel_rfl)]
  have q1 : ∀ w, (isAgg 2).run Try.prog w = .ok false w := fun w => by rfl
  have q2 : ∀ w, (isAgg 3).run Try.prog w = .ok false w := fun w => by rfl
  have q3 : ∀ w, (sizeOf 2).run Try.prog w = .ok 1 w := fun w => by rfl
  have q4 : ∀ w, (sizeOf 3).run Try.prog w = .ok 1 w := fun w => by rfl
  have e1 := eq_int d w 2 Try.underlying2 a a'
  have e2 := eq_int d w 2 Try.underlying2 b b'
  cases h1 : a == a' <;> cases h2 : b == b' <;> rw [h1] at e1 <;> rw [h2] at e2 <;> simp [Program.fieldsOf, Try.underlying28, Op.eqFields, part, q1, q2, q3, q4, e1, e2]
theorem eq_item (d : Nat) (w : World) (a b c a' b' c' : Int) : (Op.equalIn (d + 3) 30 (.agg #[.int .i64 a, .int .i64 b, .int .i64 c]) (.agg #[.int .i64 a', .int .i64 b', .int .i64 c'])).run Try.prog w = .ok (a == a' && b == b' && c == c') w := by
  rw [run_equalIn_struct (ht := by kernel_rfl) (hp := by kernel_rfl)]
  have q1 : ∀ w, (isAgg 28).run Try.prog w = .ok true w := fun w => by rfl
  have q2 : ∀ w, (isAgg 3).run Try.prog w = .ok false w := fun w => by rfl
  have q3 : ∀ w, (sizeOf 28).run Try.prog w = .ok 2 w := fun w => by rfl
  have q4 : ∀ w, (sizeOf 3).run Try.prog w = .ok 1 w := fun w => by rfl
  have e1 := eq_rec d w a b a' b'
  have e2 := eq_int (d + 1) w 3 Try.underlying3 c c'
  cases h1 : (a == a' && b == b') <;> cases h2 : c == c' <;> rw [h1] at e1 <;> rw [h2] at e2 <;> simp [Program.fieldsOf, Try.underlying30, Op.eqFields, part, q1, q2, q3, q4, e1, e2]
theorem guard_item : Try.prog.eqGuardType Try.prog.depth 30 = false := by kernel_rfl
theorem guard_rec : Try.prog.eqGuardType Try.prog.depth 28 = false := by kernel_rfl
@[go_sem high] theorem same_item (w : World) (a b c a' b' c' : Int) : (Op.equalIn 10000 30 (.agg #[.int .i64 a, .int .i64 b, .int .i64 c]) (.agg #[.int .i64 a', .int .i64 b', .int .i64 c'])).run Try.prog w = .ok (a == a' && b == b' && c == c') w := eq_item 9997 w a b c a' b' c'
@[go_sem high] theorem same_rec (w : World) (a b a' b' : Int) : (Op.equalIn 10000 28 (.agg #[.int .i64 a, .int .i64 b]) (.agg #[.int .i64 a', .int .i64 b'])).run Try.prog w = .ok (a == a' && b == b') w := eq_rec 9998 w a b a' b'
@[go_sem high] theorem gd_item (op : BinOp) (x y : Operand) (xs ys : Array Value) (w : World) : (eqGuard op 30 x y (.agg xs) (.agg ys)).run Try.prog w = .ok () w := run_eqGuard_agg w op _ x y xs ys guard_item
@[go_sem high] theorem gd_rec (op : BinOp) (x y : Operand) (xs ys : Array Value) (w : World) : (eqGuard op 28 x y (.agg xs) (.agg ys)).run Try.prog w = .ok () w := run_eqGuard_agg w op _ x y xs ys guard_rec
@[go_sem high] theorem neq_item (w : World) (a b c a' b' c' : Int) : (binOp .neq 30 (.agg #[.int .i64 a, .int .i64 b, .int .i64 c]) (.agg #[.int .i64 a', .int .i64 b', .int .i64 c'])).run Try.prog w = .ok (.bool (!(a == a' && b == b' && c == c'))) w := by
  rw [run_neq_struct, same_item]; rfl
@[go_sem high] theorem eql_item (w : World) (a b c a' b' c' : Int) : (binOp .eql 30 (.agg #[.int .i64 a, .int .i64 b, .int .i64 c]) (.agg #[.int .i64 a', .int .i64 b', .int .i64 c'])).run Try.prog w = .ok (.bool (a == a' && b == b' && c == c')) w := by
  rw [run_eql_struct, same_item]; rfl
@[go_sem high] theorem neq_rec (w : World) (a b a' b' : Int) : (binOp .neq 28 (.agg #[.int .i64 a, .int .i64 b]) (.agg #[.int .i64 a', .int .i64 b'])).run Try.prog w = .ok (.bool (!(a == a' && b == b'))) w := by
  rw [run_neq_struct, same_rec]; rfl
@[go_sem high] theorem eql_rec (w : World) (a b a' b' : Int) : (binOp .eql 28 (.agg #[.int .i64 a, .int .i64 b]) (.agg #[.int .i64 a', .int .i64 b'])).run Try.prog w = .ok (.bool (a == a' && b == b')) w := by
  rw [run_eql_struct, same_rec]; rfl
end Go.Proofs.Ytbglfaomebokhaa

/- Equality of arrays of four numbers: how two timestamps are held against each other. -/
import Derived.Test.YtkmgdejpdhlleaaMem
import Derived.Test.YtkmgdejpdhlleaaRows
import Derived.Laws.StructEq
namespace Go.Proofs.Ytkmgdejpdhlleaa
set_option linter.unusedSimpArgs false
set_option linter.unusedVariables false
set_option maxRecDepth 100000
open Go.RowKit
theorem run_equalIn_arr4 {P : Program} (w : World) (d : Nat) (t e : TypeId) (k : IntKind) (ht : P.underlying t = some (.array 4 e)) (he : P.underlying e = some (.int k)) (hs : (P.info? e).map (·.size) = some 1) (a b c f a' b' c' f' : Int) :
    (Op.equalIn (d + 2) t (.agg #[.int k a, .int k b, .int k c, .int k f]) (.agg #[.int k a', .int k b', .int k c', .int k f'])).run P w = .ok (a == a' && (b == b' && (c == c' && f == f'))) w := by
  obtain ⟨i, hi, hsz⟩ := Option.map_eq_some_iff.1 hs
  have hagg : ∀ (w : World), (isAgg e).run P w = .ok false w := by
    intro w
    simp [isAgg, run_underlying he]
  have hq : ∀ (w : World) (x y : Int), (Op.equalIn (d + 1) e (.int k x) (.int k y)).run P w = .ok (x == y) w := fun w x y => run_equalIn_int w d e k k x y he
  rw [Op.equalIn]
  simp only [Sem.run_bind, run_underlying ht, Result.andThen_ok]
  cases h1 : a == a' <;> cases h2 : b == b' <;> cases h3 : c == c' <;> cases h4 : f == f'
  all_goals
    simp [sizeOf, typeInfo, hi, hsz, Std.Legacy.Range.forIn_eq_forIn_range', List.range'_succ, List.range', part, hagg, hq, h1, h2, h3, h4]
@[go_sem] theorem equalIn_arr4 (w : World) (d : Nat) (a b c f a' b' c' f' : Int) :
    (Op.equalIn (d + 2) 71 (.agg #[.int .i64 a, .int .i64 b, .int .i64 c, .int .i64 f]) (.agg #[.int .i64 a', .int .i64 b', .int .i64 c', .int .i64 f'])).run Try.prog w = .ok (a == a' && (b == b' && (c == c' && f == f'))) w :=
  run_equalIn_arr4 w d 71 3 .i64 Try.underlying71 Try.underlying3 (by kernel_rfl) a b c f a' b' c' f'
end Go.Proofs.Ytkmgdejpdhlleaa

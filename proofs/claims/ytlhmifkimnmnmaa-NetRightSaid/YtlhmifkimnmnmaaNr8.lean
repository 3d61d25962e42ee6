/- law 14, NetRight: the walk, as the row takes it. -/
import Derived.Test.YtlhmifkimnmnmaaNr7
namespace Go.Proofs.Ytlhmifkimnmnmaa.Dp
set_option linter.unusedSimpArgs false
set_option linter.unusedVariables false
theorem walk_NetRight (l : List Bx) (_ : ∀ a ∈ l, True) (_ : l.length ≤ maxLen) (edge : Int) (_ : -9223372036854775808 ≤ edge ∧ edge ≤ 9223372036854775807) (f : Int) (_ : -9223372036854775808 ≤ f ∧ f ≤ 9223372036854775807) (t : Int) (_ : -9223372036854775808 ≤ t ∧ t ≤ 9223372036854775807)
    (i : Int) (hi : -9223372036854775808 ≤ i ∧ i ≤ 9223372036854775807) (room : Int) (_ : -9223372036854775808 ≤ room ∧ room ≤ 9223372036854775807) (m : Mg) (_ : True) :
    Cal Try.prog 3 [.c (.sl (encL bxC l)), .c (.int .i64 edge), .c (.int .i64 f), .c (.int .i64 t), .c (.int .i64 i), .c (.int .i64 room), .agg (mgC.enc m)] (.one (.c (.bool true))) := nr_cal l edge f t i room m hi
end Go.Proofs.Ytlhmifkimnmnmaa.Dp

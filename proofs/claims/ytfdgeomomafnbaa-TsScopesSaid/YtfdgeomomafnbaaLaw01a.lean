/- backwashlaw01.awake, and the statement TsSteps' walk. -/
import Derived.Test.YtfdgeomomafnbaaRef1d
import Derived.Test.YtfdgeomomafnbaaEqTs
namespace Go.Proofs.Ytfdgeomomafnbaa
set_option linter.unusedSimpArgs false
set_option linter.unusedVariables false
open Go.RowKit

set_option maxHeartbeats 400000 in
theorem awake01 (w : World) : Calls Try.prog 16 #[] w fun r w' => r = .returned (.bool true) ∧ Ext w w' := by
  have e1 : nextR ⟨2, 1, 2, 0, 0⟩ = (⟨2, 1, 3, 0, 0⟩, true) := by decide
  have e2 : rightB ⟨2, 1, 2, 0, 0⟩ = true := by decide
  have e3 : leB ⟨2, 1, 2, 0, 0⟩ ⟨2, 1, 3, 0, 0⟩ = true := by decide
  have e4 : leB ⟨2, 1, 3, 0, 0⟩ ⟨2, 1, 2, 0, 0⟩ = false := by decide
  have e5 : lessB ⟨1, 1, 0, 0, 0⟩ ⟨2, 1, 2, 0, 0⟩ = true := by decide
  go_enter Try.func16, Try.ntmps16
  go_wp2_with (first | (go_at_call 20; refine (next_any _ _ _ _ _ _).mono ?_; rintro r w' ⟨rfl, x, rfl⟩) | (go_at_call 25; refine (right_any _ _ _ _ _ _).mono ?_; rintro r w' ⟨rfl, x, rfl⟩) | (go_at_call 21; refine (le_any _ _ _ _ _ _ _ _ _ _ _).mono ?_; rintro r w' ⟨rfl, x, rfl⟩) | (go_at_call 28; refine (less_any _ _ _ _ _ _ _ _ _ _ _).mono ?_; rintro r w' ⟨rfl, x, rfl⟩))
  go_returns
  exact ⟨retb rfl rfl, by (repeat' (first | with_reducible exact Ext.refl _ | with_reducible refine Ext.ext ?_ _ | with_reducible refine Ext.alloc ?_ _ | with_reducible refine Ext.drew ?_ | with_reducible refine Ext.drewN ?_ _ | with_reducible assumption))⟩
end Go.Proofs.Ytfdgeomomafnbaa

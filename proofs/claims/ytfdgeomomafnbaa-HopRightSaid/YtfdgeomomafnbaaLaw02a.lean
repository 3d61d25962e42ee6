/- law02's awake; the walk of HopThen. -/
import Derived.Test.YtfdgeomomafnbaaHopLaw
import Derived.Test.YtfdgeomomafnbaaEqTs
namespace Go.Proofs.Ytfdgeomomafnbaa
set_option linter.unusedSimpArgs false
set_option linter.unusedVariables false
open Go.RowKit

theorem ap_as {x : Hp} {t T : Tm} {v : Bool} (h1 : apR x t = T) (h2 : apOk x t = v) (w : World) : Calls Try.prog 32 #[hv x, tv t] w fun o w' => o = .returned (.tuple #[tv T, .bool v]) ∧ Ext w w' := by
  subst h1 h2
  exact hopApply_any x t w
theorem th_as {x y z : Hp} {v : Bool} (h1 : thR x y = z) (h2 : thOk x y = v) (w : World) : Calls Try.prog 31 #[hv x, hv y] w fun o w' => o = .returned (.tuple #[hv z, .bool v]) ∧ Ext w w' := by
  subst h1 h2
  exact hopThen_any x y w

set_option maxHeartbeats 1000000 in
theorem awake02 (w : World) : Calls Try.prog 30 #[] w fun r w' => r = .returned (.bool true) ∧ Ext w w' := by
  have h1 : thR ⟨1, 1, 1, 0, 0, 0, 0, 0, 0, 0, 0⟩ ⟨2, 2, 0, 0, 1, 0, 0, 0, 0, 0, 0⟩ = ⟨1, 1, 1, 0, 0, 0, 0, 1, 0, 0, 0⟩ := by decide
  have h2 : thOk ⟨1, 1, 1, 0, 0, 0, 0, 0, 0, 0, 0⟩ ⟨2, 2, 0, 0, 1, 0, 0, 0, 0, 0, 0⟩ = true := by decide
  have h3 : apR ⟨1, 1, 1, 0, 0, 0, 0, 1, 0, 0, 0⟩ ⟨1, 5, 0, 0, 0⟩ = ⟨2, 5, 1, 0, 0⟩ := by decide
  have h4 : apOk ⟨1, 1, 1, 0, 0, 0, 0, 1, 0, 0, 0⟩ ⟨1, 5, 0, 0, 0⟩ = true := by decide
  have e1 : madeR ⟨1, 1, 1, 0, 0, 0, 0, 0, 0, 0, 0⟩ = (⟨1, 1, 1, 0, 0, 0, 0, 0, 0, 0, 0⟩, true) := by decide
  have H1 := Lib.hid (fun w => th_as h1 h2 w)
  have H2 := Lib.hid (fun w => ap_as h3 h4 w)
  have r1 := fun w => hopEnter_any 1 w
  rw [e1] at r1
  have H3 := Lib.hid r1
  have H4 := Lib.hid (fun w => hopNext_yes 2 w (by decide))
  clear h1 h2 h3 h4 e1 r1
  go_enter Try.func30, Try.ntmps30
  go_wp2_with (first | (go_at_call 40; refine (H3.out _).mono ?_; rintro r w' ⟨rfl, x, rfl⟩) | (go_at_call 42; refine (H4.out _).mono ?_; rintro r w' ⟨rfl, x, rfl⟩) | (go_at_call 31; refine (H1.out _).mono ?_; rintro r w' ⟨rfl, x, rfl⟩) | (go_at_call 32; refine (H2.out _).mono ?_; rintro r w' ⟨rfl, x, rfl⟩))
  go_returns
  exact ⟨retb rfl (by decide), by (repeat' (first | with_reducible exact Ext.refl _ | with_reducible refine Ext.ext ?_ _ | with_reducible refine Ext.alloc ?_ _ | with_reducible refine Ext.drew ?_ | with_reducible refine Ext.drewN ?_ _ | with_reducible assumption))⟩
end Go.Proofs.Ytfdgeomomafnbaa

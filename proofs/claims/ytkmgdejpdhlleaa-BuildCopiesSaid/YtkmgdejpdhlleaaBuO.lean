/- Arguments opened: steps of a builder. -/
import Derived.Test.YtkmgdejpdhlleaaDqO
import Derived.Test.YtkmgdejpdhlleaaBu1
namespace Go.Proofs.Ytkmgdejpdhlleaa.Dq
set_option linter.unusedSimpArgs false
set_option linter.unusedVariables false
set_option maxRecDepth 100000
open Go.RowKit Go.WideShapes Go.ChangeShapes Go.Deep

theorem opc_is {w : World} : OpC Try.prog w 183 isC (fun _ => True) := by
  refine opd_mono (opd_struct Try.underlying183 (by kernel_rfl) (.cons (opd_int Try.underlying3) (.cons (opd_int Try.underlying2) .nil))) fun ds h => ?_
  obtain ⟨_, _, rfl, ⟨z1, rfl, g1⟩, _, _, rfl, ⟨z2, rfl, g2⟩, rfl⟩ := h
  exact ⟨⟨z1, z2⟩, rfl, trivial⟩
theorem ops_is {w : World} : OpS Try.prog w 56 isC (fun _ => True) := ops_of (k := 2) Try.underlying56 (by kernel_rfl) (by decide) opc_is
theorem opc_sp {w : World} : OpC Try.prog w 58 spC (fun _ => True) := by
  refine opd_mono (opd_struct Try.underlying58 (by kernel_rfl) (.cons (opd_int Try.underlying3) (.cons (opd_int Try.underlying3) (.cons (opd_int Try.underlying2) (.cons ops_is .nil))))) fun ds h => ?_
  obtain ⟨_, _, rfl, ⟨z1, rfl, g1⟩, _, _, rfl, ⟨z2, rfl, g2⟩, _, _, rfl, ⟨z3, rfl, g3⟩, _, _, rfl, ⟨z4, rfl, g4, k4⟩, rfl⟩ := h
  exact ⟨⟨z1, z2, z3, z4⟩, rfl, trivial⟩
theorem ops_sp {w : World} : OpS Try.prog w 45 spC (fun _ => True) := ops_of (k := 4) Try.underlying45 (by kernel_rfl) (by decide) opc_sp
end Go.Proofs.Ytkmgdejpdhlleaa.Dq

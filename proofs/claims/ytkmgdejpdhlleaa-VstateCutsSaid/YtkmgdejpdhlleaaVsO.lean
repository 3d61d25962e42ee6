/- Arguments opened: entries. -/
import Derived.Test.YtkmgdejpdhlleaaDqO
import Derived.Test.YtkmgdejpdhlleaaVs1
namespace Go.Proofs.Ytkmgdejpdhlleaa.Dq
set_option linter.unusedSimpArgs false
set_option linter.unusedVariables false
set_option maxRecDepth 100000
open Go.RowKit Go.WideShapes Go.ChangeShapes Go.Deep

theorem opc_en {w : World} : OpC Try.prog w 34 enC (fun _ => True) := by
  refine opd_mono (opd_struct Try.underlying34 (by kernel_rfl) (.cons (opd_int Try.underlying3) (.cons (opd_struct Try.underlying32 (by kernel_rfl) (.cons (opd_int Try.underlying2) (.cons (opd_int Try.underlying2) .nil))) (.cons (opd_int Try.underlying3) .nil)))) fun ds h => ?_
  obtain ⟨_, _, rfl, ⟨z1, rfl, g1⟩, _, _, rfl, ⟨_, _, rfl, ⟨z2, rfl, g2⟩, _, _, rfl, ⟨z3, rfl, g3⟩, rfl⟩, _, _, rfl, ⟨z4, rfl, g4⟩, rfl⟩ := h
  exact ⟨⟨z1, z2, z3, z4⟩, rfl, trivial⟩
theorem ops_en {w : World} : OpS Try.prog w 22 enC (fun _ => True) := ops_of (k := 4) Try.underlying22 (by kernel_rfl) (by decide) opc_en
end Go.Proofs.Ytkmgdejpdhlleaa.Dq

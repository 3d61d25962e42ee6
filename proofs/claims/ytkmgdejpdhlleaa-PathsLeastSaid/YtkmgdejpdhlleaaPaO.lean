/- Arguments opened: steps. -/
import Derived.Test.YtkmgdejpdhlleaaDqO
import Derived.Test.YtkmgdejpdhlleaaPaA
namespace Go.Proofs.Ytkmgdejpdhlleaa.Dq
set_option linter.unusedSimpArgs false
set_option linter.unusedVariables false
set_option maxRecDepth 100000
open Go.RowKit Go.WideShapes Go.ChangeShapes Go.Deep

theorem opc_hp {w : World} : OpC Try.prog w 82 hpC (fun _ => True) := by
  refine opd_mono (opd_struct Try.underlying82 (by kernel_rfl) (.cons (opd_int Try.underlying3) (.cons (opd_int Try.underlying3) (.cons (opd_int Try.underlying3) (.cons (opd_arr4 Try.underlying71 (by kernel_rfl) (by kernel_rfl) Try.underlying3) (.cons (opd_arr4 Try.underlying71 (by kernel_rfl) (by kernel_rfl) Try.underlying3) .nil)))))) fun ds h => ?_
  obtain ⟨_, _, rfl, ⟨z1, rfl, g1⟩, _, _, rfl, ⟨z2, rfl, g2⟩, _, _, rfl, ⟨z3, rfl, g3⟩, _, _, rfl, ⟨z4, z5, z6, z7, rfl⟩, _, _, rfl, ⟨z8, z9, z10, z11, rfl⟩, rfl⟩ := h
  exact ⟨⟨z1, z2, z3, z4, z5, z6, z7, z8, z9, z10, z11⟩, rfl, trivial⟩
theorem ops_hp {w : World} : OpS Try.prog w 70 hpC (fun _ => True) := ops_of (k := 11) Try.underlying70 (by kernel_rfl) (by decide) opc_hp
end Go.Proofs.Ytkmgdejpdhlleaa.Dq

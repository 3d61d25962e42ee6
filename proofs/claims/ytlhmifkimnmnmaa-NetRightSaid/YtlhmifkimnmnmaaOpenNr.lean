/- Arguments opened: messages and mailboxes. -/
import Derived.Test.YtlhmifkimnmnmaaDpO
import Derived.Test.YtlhmifkimnmnmaaNr1
namespace Go.Proofs.Ytlhmifkimnmnmaa.Dp
set_option linter.unusedSimpArgs false
set_option linter.unusedVariables false
open Go.RowKit Go.WideShapes Go.ChangeShapes Go.Deep

theorem opc_mg {w : World} : OpC Try.prog w 29 mgC (fun _ => True) := by
  refine opd_mono (opd_struct Try.underlying29 (by kernel_rfl) (.cons (opd_int Try.underlying3) (.cons (opd_struct Try.underlying25 (by kernel_rfl) (.cons (opd_int Try.underlying3) (.cons (opd_arr4 Try.underlying23 (by kernel_rfl) (by kernel_rfl) Try.underlying3) .nil))) (.cons (opd_struct Try.underlying27 (by kernel_rfl) (.cons (opd_int Try.underlying2) (.cons (opd_int Try.underlying2) .nil))) (.cons (opd_int Try.underlying3) (.cons (opd_int Try.underlying3) .nil)))))) fun ds h => ?_
  obtain ⟨_, _, rfl, ⟨z1, rfl, g1⟩, _, _, rfl, ⟨_, _, rfl, ⟨z2, rfl, g2⟩, _, _, rfl, ⟨z3, z4, z5, z6, rfl⟩, rfl⟩, _, _, rfl, ⟨_, _, rfl, ⟨z7, rfl, g7⟩, _, _, rfl, ⟨z8, rfl, g8⟩, rfl⟩, _, _, rfl, ⟨z9, rfl, g9⟩, _, _, rfl, ⟨z10, rfl, g10⟩, rfl⟩ := h
  exact ⟨⟨z1, z2, z3, z4, z5, z6, z7, z8, z9, z10⟩, rfl, trivial⟩
theorem ops_mg {w : World} : OpS Try.prog w 32 mgC (fun _ => True) := ops_of (k := 10) Try.underlying32 (by kernel_rfl) (by decide) opc_mg
theorem opc_bx {w : World} : OpC Try.prog w 34 bxC (fun _ => True) := by
  refine opd_mono (opd_struct Try.underlying34 (by kernel_rfl) (.cons (opd_int Try.underlying3) (.cons (opd_int Try.underlying3) (.cons (opd_int Try.underlying3) (.cons ops_mg .nil))))) fun ds h => ?_
  obtain ⟨_, _, rfl, ⟨z1, rfl, g1⟩, _, _, rfl, ⟨z2, rfl, g2⟩, _, _, rfl, ⟨z3, rfl, g3⟩, _, _, rfl, ⟨z4, rfl, g4, k4⟩, rfl⟩ := h
  exact ⟨⟨z1, z2, z3, z4⟩, rfl, trivial⟩
theorem ops_bx {w : World} : OpS Try.prog w 22 bxC (fun _ => True) := ops_of (k := 4) Try.underlying22 (by kernel_rfl) (by decide) opc_bx
end Go.Proofs.Ytlhmifkimnmnmaa.Dp

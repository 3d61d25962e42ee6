/- Arguments opened: graphs, feeds. -/
import Derived.Test.YtkmgdejpdhlleaaDqO
import Derived.Test.YtkmgdejpdhlleaaLn1
namespace Go.Proofs.Ytkmgdejpdhlleaa.Dq
set_option linter.unusedSimpArgs false
set_option linter.unusedVariables false
set_option maxRecDepth 100000
open Go.RowKit

open Go.RowKit Go.WideShapes Go.ChangeShapes Go.Deep

theorem opc_in {w : World} : OpC Try.prog w 3 inC (fun _ => True) := opd_mono (opd_int Try.underlying3) fun _ ⟨n, h, _⟩ => ⟨n, h, trivial⟩
theorem ops_in {w : World} : OpS Try.prog w 47 inC (fun _ => True) := ops_of (k := 1) Try.underlying47 (by kernel_rfl) (by decide) opc_in
theorem opc_is {w : World} : OpC Try.prog w 183 isC (fun _ => True) := by
  refine opd_mono (opd_struct Try.underlying183 (by kernel_rfl) (.cons (opd_int Try.underlying3) (.cons (opd_int Try.underlying2) .nil))) fun ds h => ?_
  obtain ⟨_, _, rfl, ⟨z1, rfl, g1⟩, _, _, rfl, ⟨z2, rfl, g2⟩, rfl⟩ := h
  exact ⟨⟨z1, z2⟩, rfl, trivial⟩
theorem ops_is {w : World} : OpS Try.prog w 56 isC (fun _ => True) := ops_of (k := 2) Try.underlying56 (by kernel_rfl) (by decide) opc_is
theorem opc_nd {w : World} : OpC Try.prog w 60 ndC (fun _ => True) := by
  refine opd_mono (opd_struct Try.underlying60 (by kernel_rfl) (.cons (opd_int Try.underlying3) (.cons (opd_int Try.underlying3) (.cons (opd_int Try.underlying2) (.cons ops_is .nil))))) fun ds h => ?_
  obtain ⟨_, _, rfl, ⟨z1, rfl, g1⟩, _, _, rfl, ⟨z2, rfl, g2⟩, _, _, rfl, ⟨z3, rfl, g3⟩, _, _, rfl, ⟨z4, rfl, g4, k4⟩, rfl⟩ := h
  exact ⟨⟨z1, z2, z3, z4⟩, rfl, trivial⟩
theorem ops_nd {w : World} : OpS Try.prog w 48 ndC (fun _ => True) := ops_of (k := 4) Try.underlying48 (by kernel_rfl) (by decide) opc_nd
theorem opc_eg {w : World} : OpC Try.prog w 78 egC (fun _ => True) := by
  refine opd_mono (opd_struct Try.underlying78 (by kernel_rfl) (.cons (opd_int Try.underlying3) (.cons (opd_int Try.underlying3) (.cons (opd_int Try.underlying3) (.cons (opd_bool Try.underlying4) .nil))))) fun ds h => ?_
  obtain ⟨_, _, rfl, ⟨z1, rfl, g1⟩, _, _, rfl, ⟨z2, rfl, g2⟩, _, _, rfl, ⟨z3, rfl, g3⟩, _, _, rfl, ⟨z4, rfl⟩, rfl⟩ := h
  exact ⟨⟨z1, z2, z3, z4⟩, rfl, trivial⟩
theorem ops_eg {w : World} : OpS Try.prog w 49 egC (fun _ => True) := ops_of (k := 4) Try.underlying49 (by kernel_rfl) (by decide) opc_eg
theorem opc_gr {w : World} : OpC Try.prog w 51 grC (fun _ => True) := by
  refine opd_mono (opd_struct Try.underlying51 (by kernel_rfl) (.cons ops_in (.cons ops_in (.cons ops_nd (.cons ops_eg .nil))))) fun ds h => ?_
  obtain ⟨_, _, rfl, ⟨z1, rfl, g1, k1⟩, _, _, rfl, ⟨z2, rfl, g2, k2⟩, _, _, rfl, ⟨z3, rfl, g3, k3⟩, _, _, rfl, ⟨z4, rfl, g4, k4⟩, rfl⟩ := h
  exact ⟨⟨z1, z2, z3, z4⟩, rfl, trivial⟩
theorem opc_fd {w : World} : OpC Try.prog w 96 fdC (fun _ => True) := by
  refine opd_mono (opd_struct Try.underlying96 (by kernel_rfl) (.cons (opd_int Try.underlying3) (.cons (opd_int Try.underlying3) (.cons (opd_struct Try.underlying32 (by kernel_rfl) (.cons (opd_int Try.underlying2) (.cons (opd_int Try.underlying2) .nil))) .nil)))) fun ds h => ?_
  obtain ⟨_, _, rfl, ⟨z1, rfl, g1⟩, _, _, rfl, ⟨z2, rfl, g2⟩, _, _, rfl, ⟨_, _, rfl, ⟨z3, rfl, g3⟩, _, _, rfl, ⟨z4, rfl, g4⟩, rfl⟩, rfl⟩ := h
  exact ⟨⟨z1, z2, z3, z4⟩, rfl, trivial⟩
theorem ops_fd {w : World} : OpS Try.prog w 94 fdC (fun _ => True) := ops_of (k := 4) Try.underlying94 (by kernel_rfl) (by decide) opc_fd
end Go.Proofs.Ytkmgdejpdhlleaa.Dq

/- Arguments opened: tokens, units, lists of lists of timestamps. -/
import Derived.Test.YtmngjifcgfnogaaDqO
import Derived.Test.YtmngjifcgfnogaaKb
namespace Go.Proofs.Ytmngjifcgfnogaa.Dq
set_option linter.unusedSimpArgs false
set_option linter.unusedVariables false
set_option maxRecDepth 100000
open Go.RowKit Go.WideShapes Go.ChangeShapes Go.Deep

theorem opc_tm {w : World} : OpC Try.prog w 47 tmC (fun _ => True) := by
  refine opd_mono (opd_struct Try.underlying47 (by kernel_rfl) (.cons (opd_int Try.underlying3) (.cons (opd_arr4 Try.underlying45 (by kernel_rfl) (by kernel_rfl) Try.underlying3) .nil))) fun ds h => ?_
  obtain ⟨_, _, rfl, ⟨z1, rfl, g1⟩, _, _, rfl, ⟨z2, z3, z4, z5, rfl⟩, rfl⟩ := h
  exact ⟨⟨z1, z2, z3, z4, z5⟩, rfl, trivial⟩
theorem ops_tm {w : World} : OpS Try.prog w 38 tmC (fun _ => True) := ops_of (k := 5) Try.underlying38 (by kernel_rfl) (by decide) opc_tm
theorem opc_cl {w : World} : OpC Try.prog w 38 clC (fun _ => True) := opd_mono ops_tm fun _ ⟨l, h, _⟩ => ⟨l, h, trivial⟩
theorem ops_cl {w : World} : OpS Try.prog w 22 clC (fun _ => True) := ops_of (k := 1) Try.underlying22 (by kernel_rfl) (by decide) opc_cl
theorem opc_tk {w : World} : OpC Try.prog w 24 tkC (fun _ => True) := by
  refine opd_mono (opd_struct Try.underlying24 (by kernel_rfl) (.cons (opd_int Try.underlying3) (.cons (opd_int Try.underlying3) (.cons (opd_int Try.underlying3) (.cons (opd_int Try.underlying3) (.cons ops_cl .nil)))))) fun ds h => ?_
  obtain ⟨_, _, rfl, ⟨z1, rfl, g1⟩, _, _, rfl, ⟨z2, rfl, g2⟩, _, _, rfl, ⟨z3, rfl, g3⟩, _, _, rfl, ⟨z4, rfl, g4⟩, _, _, rfl, ⟨z5, rfl, g5, k5⟩, rfl⟩ := h
  exact ⟨⟨z1, z2, z3, z4, z5⟩, rfl, trivial⟩
theorem any_item {w : World} : OpD Try.prog w 158 (fun _ => True) := opd_any (opd_struct Try.underlying158 (by kernel_rfl) (.cons (opd_struct Try.underlying156 (by kernel_rfl) (.cons (opd_int Try.underlying2) (.cons (opd_int Try.underlying2) .nil))) (.cons (opd_int Try.underlying3) .nil)))
theorem any_items {w : World} : OpD Try.prog w 151 (fun _ => True) := opd_any (opd_sl (k := 3) Try.underlying151 (by kernel_rfl) (by decide) any_item)
theorem any_time {w : World} : OpD Try.prog w 47 (fun _ => True) := opd_any opc_tm
theorem any_slot {w : World} : OpD Try.prog w 154 (fun _ => True) := opd_any (opd_struct Try.underlying154 (by kernel_rfl) (.cons any_time (.cons (opd_any (opd_arr2 Try.underlying152 (by kernel_rfl) (by kernel_rfl) any_items)) (.cons any_items (.cons (opd_bool Try.underlying4) (.cons (opd_bool Try.underlying4) .nil))))))
theorem any_slots {w : World} : OpD Try.prog w 149 (fun _ => True) := opd_any (opd_sl (k := 10) Try.underlying149 (by kernel_rfl) (by decide) any_slot)
theorem ops_cells {w : World} : OpD Try.prog w 25 (fun ds => ∃ l : List (List D), ds = [.sl l] ∧ (∀ x ∈ l, True) ∧ l.length ≤ maxLen) := opd_sl (k := 1) Try.underlying25 (by kernel_rfl) (by decide) any_slots
theorem opc_un {w : World} : OpC Try.prog w 28 unC (fun _ => True) := by
  refine opd_mono (opd_struct Try.underlying28 (by kernel_rfl) (.cons (opd_int Try.underlying3) (.cons ops_cells (.cons (opd_int Try.underlying3) (.cons (opd_int2 Try.underlying26 (by kernel_rfl) (by kernel_rfl) Try.underlying3) (.cons (opd_int2 Try.underlying26 (by kernel_rfl) (by kernel_rfl) Try.underlying3) (.cons ops_cl (.cons (opd_int Try.underlying3) (.cons (opd_int Try.underlying3) .nil))))))))) fun ds h => ?_
  obtain ⟨_, _, rfl, ⟨z1, rfl, g1⟩, _, _, rfl, ⟨z2, rfl, g2, k2⟩, _, _, rfl, ⟨z3, rfl, g3⟩, _, _, rfl, ⟨z4, z5, rfl⟩, _, _, rfl, ⟨z6, z7, rfl⟩, _, _, rfl, ⟨z8, rfl, g8, k8⟩, _, _, rfl, ⟨z9, rfl, g9⟩, _, _, rfl, ⟨z10, rfl, g10⟩, rfl⟩ := h
  exact ⟨⟨z1, z2, z3, z4, z5, z6, z7, z8, z9, z10⟩, rfl, trivial⟩
end Go.Proofs.Ytmngjifcgfnogaa.Dq

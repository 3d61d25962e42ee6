/- Bounds of a right step and a right timestamp. -/
import Derived.Test.YtkmgdejpdhlleaaHop5
import Derived.Test.YtkmgdejpdhlleaaCopyBox
namespace Go.Proofs.Ytkmgdejpdhlleaa
set_option linter.unusedSimpArgs false
set_option linter.unusedVariables false
set_option maxRecDepth 100000
open Go.RowKit

theorem wi_bd {n a b c e : Int} (h : withinB a b c e n = true) (i : Int) (hi : i = 0 ∨ i = 1 ∨ i = 2 ∨ i = 3) : 0 ≤ cAt a b c e i ∧ cAt a b c e i ≤ 1048576 := by
  simp only [withinB, wiTo, wiAt, Bool.and_eq_true, decide_eq_true_eq] at h
  rcases hi with rfl | rfl | rfl | rfl
  · exact ⟨h.1.1.1.2.1, h.1.1.1.2.2.1⟩
  · exact ⟨h.1.1.2.1, h.1.1.2.2.1⟩
  · exact ⟨h.1.2.1, h.1.2.2.1⟩
  · exact ⟨h.2.1, h.2.2.1⟩
theorem okAt_bd {d x k : Int} (h : okAt d x k = true) : 0 ≤ x ∧ x ≤ 1048576 := by
  simp only [okAt, decide_eq_true_eq] at h
  obtain ⟨h1, h2, h3⟩ := h
  have hg : gr k ≤ 1048576 := by unfold gr; split <;> omega
  by_cases hk : k < d
  · have := h2 hk; omega
  · have := h3 (by omega); omega
theorem tm_bd {d a b c e : Int} (h : rightB ⟨d, a, b, c, e⟩ = true) (i : Int) (hi : i = 0 ∨ i = 1 ∨ i = 2 ∨ i = 3) : 0 ≤ cAt a b c e i ∧ cAt a b c e i ≤ 1048576 := by
  simp only [rightB, okTo, Bool.and_eq_true, decide_eq_true_eq] at h
  rcases hi with rfl | rfl | rfl | rfl
  · exact okAt_bd h.2.1.1.1.2
  · exact okAt_bd h.2.1.1.2
  · exact okAt_bd h.2.1.2
  · exact okAt_bd h.2.2
theorem apply_bd {f k l a b c e p q r s t1 t2 t3 t4 : Int} (hx : hopB ⟨f, k, l, a, b, c, e, p, q, r, s⟩ = true) (hy : rightB ⟨f, t1, t2, t3, t4⟩ = true) (i : Int) (hi : i = 0 ∨ i = 1 ∨ i = 2 ∨ i = 3) :
    (0 ≤ cAt t1 t2 t3 t4 i ∧ cAt t1 t2 t3 t4 i ≤ 1048576) ∧ 0 ≤ cAt a b c e i ∧ cAt a b c e i ≤ 1048576 :=
  ⟨tm_bd hy i hi, wi_bd ((hopB_iff _).1 hx).2.1 i hi⟩
theorem apply_wrap {f k l a b c e p q r s t1 t2 t3 t4 : Int} (hx : hopB ⟨f, k, l, a, b, c, e, p, q, r, s⟩ = true) (hy : rightB ⟨f, t1, t2, t3, t4⟩ = true) (i : Int) (hi : i = 0 ∨ i = 1 ∨ i = 2 ∨ i = 3) :
    wrap64 (cAt t1 t2 t3 t4 i + cAt a b c e i) = cAt t1 t2 t3 t4 i + cAt a b c e i := by
  obtain ⟨h1, h2⟩ := apply_bd hx hy i hi
  exact IntWalk.wrap64_in _ ⟨by omega, by omega⟩
end Go.Proofs.Ytkmgdejpdhlleaa

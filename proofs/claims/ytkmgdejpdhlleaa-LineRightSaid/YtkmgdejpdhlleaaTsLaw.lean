/- The orders' plain laws: join, meet; steps keep the order. No walk in sight. -/
import Derived.Test.YtkmgdejpdhlleaaRef1f
namespace Go.Proofs.Ytkmgdejpdhlleaa
set_option linter.unusedSimpArgs false
set_option linter.unusedVariables false
set_option maxRecDepth 100000

theorem leB_iff (s t : Tm) : leB s t = true ↔ rightB s = true ∧ rightB t = true ∧ s.d = t.d ∧ s.a ≤ t.a ∧ s.b ≤ t.b ∧ s.c ≤ t.c ∧ s.e ≤ t.e := by
  simp only [leB, bothB, Bool.and_eq_true, decide_eq_true_eq]
  constructor
  · rintro ⟨⟨h1, h2, h3⟩, h4⟩; exact ⟨h1, h2, h3, h4⟩
  · rintro ⟨h1, h2, h3, h4⟩; exact ⟨⟨h1, h2, h3⟩, h4⟩
end Go.Proofs.Ytkmgdejpdhlleaa

/- Chain: timestamps' plain facts. -/
import Derived.Test.YtmngjifcgfnogaaTs3
namespace Go.Proofs.Ytmngjifcgfnogaa
set_option linter.unusedSimpArgs false
set_option linter.unusedVariables false
set_option maxRecDepth 100000
open Go.RowKit

theorem rightB_iff (t : Tm) : rightB t = true ↔ 1 ≤ t.d ∧ t.d ≤ 4 ∧ 0 ≤ t.a ∧ 0 ≤ t.b ∧ 0 ≤ t.c ∧ 0 ≤ t.e ∧ t.a ≤ 1048576 ∧ t.b ≤ 64 ∧ t.c ≤ 64 ∧ t.e ≤ 64 ∧
    (1 < t.d ∨ t.b = 0) ∧ (2 < t.d ∨ t.c = 0) ∧ (3 < t.d ∨ t.e = 0) := by
  simp [rightB, okTo, okAt, cAt, gr]
  omega
theorem at_0 (t : Tm) : t.at 0 = t.a := rfl
theorem at_1 (t : Tm) : t.at 1 = t.b := rfl
theorem at_2 (t : Tm) : t.at 2 = t.c := rfl
theorem at_3 (t : Tm) : t.at 3 = t.e := rfl
theorem leB_iff (s t : Tm) : leB s t = true ↔ rightB s = true ∧ rightB t = true ∧ s.d = t.d ∧ s.a ≤ t.a ∧ s.b ≤ t.b ∧ s.c ≤ t.c ∧ s.e ≤ t.e := by
  simp only [leB, bothB, Bool.and_eq_true, decide_eq_true_eq]
  constructor
  · rintro ⟨⟨h1, h2, h3⟩, h4⟩; exact ⟨h1, h2, h3, h4⟩
  · rintro ⟨h1, h2, h3, h4⟩; exact ⟨⟨h1, h2, h3⟩, h4⟩
theorem leB_refl {s : Tm} (h : rightB s = true) : leB s s = true := (leB_iff _ _).2 ⟨h, h, rfl, by omega, by omega, by omega, by omega⟩
end Go.Proofs.Ytmngjifcgfnogaa

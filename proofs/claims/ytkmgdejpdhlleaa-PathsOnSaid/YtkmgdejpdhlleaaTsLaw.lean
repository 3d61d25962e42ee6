/- The orders' plain laws: join, meet; steps keep the order. No walk in sight. -/
import Derived.Test.YtkmgdejpdhlleaaRef1f
namespace Go.Proofs.Ytkmgdejpdhlleaa
set_option linter.unusedSimpArgs false
set_option linter.unusedVariables false
set_option maxRecDepth 100000

theorem imax_le (x y z : Int) : imax x y ≤ z ↔ x ≤ z ∧ y ≤ z := by unfold imax; split <;> omega
theorem le_imin (x y z : Int) : z ≤ imin x y ↔ z ≤ x ∧ z ≤ y := by unfold imin; split <;> omega
theorem rightB_join {s t : Tm} (h : bothB s t = true) : rightB (joinT s t) = true := by
  simp only [bothB, Bool.and_eq_true, decide_eq_true_eq] at h
  obtain ⟨h1, h2, h3⟩ := h
  have r1 := (rightB_iff _).1 h1
  have r2 := (rightB_iff _).1 h2
  rw [rightB_iff]
  simp only [joinT, imax]
  repeat' split
  all_goals omega
theorem rightB_meet {s t : Tm} (h : bothB s t = true) : rightB (meetT s t) = true := by
  simp only [bothB, Bool.and_eq_true, decide_eq_true_eq] at h
  obtain ⟨h1, h2, h3⟩ := h
  have r1 := (rightB_iff _).1 h1
  have r2 := (rightB_iff _).1 h2
  rw [rightB_iff]
  simp only [meetT, imin]
  repeat' split
  all_goals omega
theorem leB_iff (s t : Tm) : leB s t = true ↔ rightB s = true ∧ rightB t = true ∧ s.d = t.d ∧ s.a ≤ t.a ∧ s.b ≤ t.b ∧ s.c ≤ t.c ∧ s.e ≤ t.e := by
  simp only [leB, bothB, Bool.and_eq_true, decide_eq_true_eq]
  constructor
  · rintro ⟨⟨h1, h2, h3⟩, h4⟩; exact ⟨h1, h2, h3, h4⟩
  · rintro ⟨h1, h2, h3, h4⟩; exact ⟨⟨h1, h2, h3⟩, h4⟩
theorem le_join (s t c : Tm) (h : bothB s t = true) : leB (joinT s t) c = (leB s c && leB t c) := by
  have hj := rightB_join h
  simp only [bothB, Bool.and_eq_true, decide_eq_true_eq] at h
  obtain ⟨h1, h2, h3⟩ := h
  rw [Bool.eq_iff_iff, Bool.and_eq_true, leB_iff, leB_iff, leB_iff]
  simp only [hj, h1, h2, true_and]
  simp only [joinT, imax_le]
  rw [← h3]
  constructor
  · rintro ⟨a, b, c, d, e, f⟩; exact ⟨⟨a, b, c.1, d.1, e.1, f.1⟩, a, b, c.2, d.2, e.2, f.2⟩
  · rintro ⟨⟨a, b, c, d, e, f⟩, -, -, c', d', e', f'⟩; exact ⟨a, b, ⟨c, c'⟩, ⟨d, d'⟩, ⟨e, e'⟩, f, f'⟩
theorem meet_le (s t c : Tm) (h : bothB s t = true) : leB c (meetT s t) = (leB c s && leB c t) := by
  have hj := rightB_meet h
  simp only [bothB, Bool.and_eq_true, decide_eq_true_eq] at h
  obtain ⟨h1, h2, h3⟩ := h
  rw [Bool.eq_iff_iff, Bool.and_eq_true, leB_iff, leB_iff, leB_iff]
  simp only [hj, h1, h2, true_and]
  simp only [meetT, le_imin]
  rw [← h3]
  constructor
  · rintro ⟨a, b, c, d, e, f⟩; exact ⟨⟨a, b, c.1, d.1, e.1, f.1⟩, a, b, c.2, d.2, e.2, f.2⟩
  · rintro ⟨⟨a, b, c, d, e, f⟩, -, -, c', d', e', f'⟩; exact ⟨a, b, ⟨c, c'⟩, ⟨d, d'⟩, ⟨e, e'⟩, f, f'⟩
theorem leB_refl {s : Tm} (h : rightB s = true) : leB s s = true := (leB_iff _ _).2 ⟨h, h, rfl, by omega, by omega, by omega, by omega⟩
theorem joins (s t : Tm) (h : bothB s t = true) : leB s (joinT s t) = true ∧ leB t (joinT s t) = true ∧ leB (meetT s t) s = true ∧ leB (meetT s t) t = true := by
  have hj := rightB_join h
  have hm := rightB_meet h
  have h1 := le_join s t (joinT s t) h
  have h2 := meet_le s t (meetT s t) h
  rw [leB_refl hj] at h1
  rw [leB_refl hm] at h2
  have h1 := h1.symm
  have h2 := h2.symm
  rw [Bool.and_eq_true] at h1 h2
  exact ⟨h1.1, h1.2, h2.1, h2.2⟩

/-- The contract of ts.Le at a known answer. -/
theorem le_eq {d a b c e d' a' b' c' e' : Int} {v : Bool} (h : leB ⟨d, a, b, c, e⟩ ⟨d', a', b', c', e'⟩ = v) (w : World) :
    Calls Try.prog 93 #[.agg #[.int .i64 d, .int .i64 a, .int .i64 b, .int .i64 c, .int .i64 e], .agg #[.int .i64 d', .int .i64 a', .int .i64 b', .int .i64 c', .int .i64 e']] w
      fun r w' => r = .returned (.bool v) ∧ Ext w w' := by
  subst h
  exact le_any _ _ _ _ _ _ _ _ _ _ w
end Go.Proofs.Ytkmgdejpdhlleaa

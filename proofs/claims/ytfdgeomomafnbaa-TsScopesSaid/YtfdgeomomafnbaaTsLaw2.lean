/- The steps' plain laws: they keep the order; who enters and leaves is where it was. No walk in sight. -/
import Derived.Test.YtfdgeomomafnbaaTsLaw
namespace Go.Proofs.Ytfdgeomomafnbaa
set_option linter.unusedSimpArgs false
set_option linter.unusedVariables false

theorem tz_no (t : Tm) : leB tz t = false := by
  rw [← Bool.not_eq_true, leB_iff]
  rintro ⟨h, _⟩
  have := rightB_d h
  simp [tz] at this
theorem enter_le {s t : Tm} (h : leB s t = true) : (enterR t).2 = (enterR s).2 ∧ leB (enterR s).1 (enterR t).1 = (enterR s).2 := by
  obtain ⟨h1, h2, h3, h4⟩ := (leB_iff _ _).1 h
  have r1 := (rightB_iff _).1 h1
  have r2 := (rightB_iff _).1 h2
  by_cases hd : s.d < 4
  · have hs : enterR s = (enterT s, true) := by simp [enterR, enterOk, h1, hd]
    have ht : enterR t = (enterT t, true) := by simp [enterR, enterOk, h2, ← h3, hd]
    rw [hs, ht]
    refine ⟨rfl, (leB_iff _ _).2 ⟨(rightB_iff _).2 ?_, (rightB_iff _).2 ?_, ?_⟩⟩ <;> simp only [enterT] <;> omega
  · have hs : enterR s = (tz, false) := by simp [enterR, enterOk, hd]
    have ht : enterR t = (tz, false) := by simp [enterR, enterOk, ← h3, hd]
    rw [hs, ht]
    exact ⟨rfl, tz_no _⟩
theorem set_d (t : Tm) (k v : Int) : (t.set k v).d = t.d := rfl
theorem leave_le {s t : Tm} (h : leB s t = true) : (leaveR t).2 = (leaveR s).2 ∧ leB (leaveR s).1 (leaveR t).1 = (leaveR s).2 := by
  obtain ⟨h1, h2, h3, h4⟩ := (leB_iff _ _).1 h
  have r1 := (rightB_iff _).1 h1
  have r2 := (rightB_iff _).1 h2
  by_cases hd : 1 < s.d
  · have hs : leaveR s = (leaveT s, true) := by simp [leaveR, leaveOk, h1, hd]
    have ht : leaveR t = (leaveT t, true) := by simp [leaveR, leaveOk, h2, ← h3, hd]
    rw [hs, ht]
    refine ⟨rfl, (leB_iff _ _).2 ⟨(rightB_iff _).2 ?_, (rightB_iff _).2 ?_, ?_⟩⟩ <;> simp only [leaveT, Tm.set] <;> (repeat' split) <;> omega
  · have hs : leaveR s = (tz, false) := by simp [leaveR, leaveOk, hd]
    have ht : leaveR t = (tz, false) := by simp [leaveR, leaveOk, ← h3, hd]
    rw [hs, ht]
    exact ⟨rfl, tz_no _⟩
theorem nextR_yes {s : Tm} (h1 : rightB s = true) (h2 : s.at (s.d - 1) < gr (s.d - 1)) : nextR s = (nextT s, true) := by simp [nextR, nextOk, h1, h2]
theorem nextR_no {s : Tm} (h : ¬ (rightB s = true ∧ s.at (s.d - 1) < gr (s.d - 1))) : nextR s = (tz, false) := by
  unfold nextR
  rw [if_neg]
  simpa [nextOk] using h
theorem next_le {s t : Tm} (h : leB s t = true) : leB (nextR s).1 (nextR t).1 = (nextR t).2 ∧ ((nextR t).2 = true → (nextR s).2 = true) := by
  obtain ⟨h1, h2, h3, h4⟩ := (leB_iff _ _).1 h
  have r1 := (rightB_iff _).1 h1
  have r2 := (rightB_iff _).1 h2
  by_cases ht : t.at (t.d - 1) < gr (t.d - 1)
  · have hs : s.at (s.d - 1) < gr (s.d - 1) := by
      rw [h3]
      have : s.at (t.d - 1) ≤ t.at (t.d - 1) := by simp only [Tm.at, cAt]; (repeat' split) <;> omega
      omega
    rw [nextR_yes h1 hs, nextR_yes h2 ht]
    refine ⟨(leB_iff _ _).2 ⟨(rightB_iff _).2 ?_, (rightB_iff _).2 ?_, ?_⟩, fun _ => rfl⟩ <;> simp only [nextT, Tm.set, Tm.at, cAt, gr] at hs ht ⊢ <;> (repeat' split at hs) <;> (repeat' split at ht) <;> (repeat' split) <;> omega
  · rw [nextR_no (s := t) (fun h => ht h.2)]
    refine ⟨?_, fun h => by cases h⟩
    rw [← Bool.not_eq_true, leB_iff]
    rintro ⟨_, h, _⟩
    have := rightB_d h
    simp [tz] at this
theorem next_ne {s : Tm} (h : (nextR s).2 = true) : (nextR s).1 ≠ s := by
  by_cases hc : rightB s = true ∧ s.at (s.d - 1) < gr (s.d - 1)
  · rw [nextR_yes hc.1 hc.2]
    have r1 := (rightB_iff _).1 hc.1
    intro he
    have := congrArg (fun t : Tm => t.at (s.d - 1)) he
    simp only [nextT, Tm.set, Tm.at, cAt] at this
    revert this
    (repeat' split) <;> intro this <;> omega
  · rw [nextR_no hc] at h
    cases h

/-- In the scope that a has entered, at some round. -/
def Scoped (a t : Tm) : Prop := rightB t = true ∧ t.d = a.d + 1 ∧ leaveT t = a
theorem enter_scoped {a : Tm} (h : (enterR a).2 = true) : Scoped a (enterR a).1 := by
  by_cases hc : rightB a = true ∧ a.d < 4
  · have hs : enterR a = (enterT a, true) := by simp [enterR, enterOk, hc.1, hc.2]
    rw [hs]
    have r1 := (rightB_iff _).1 hc.1
    refine ⟨(rightB_iff _).2 (by simp only [enterT]; omega), rfl, ?_⟩
    cases a with | mk d a b c e =>
    simp only [] at r1
    simp only [leaveT, enterT, Tm.set, Tm.mk.injEq, Int.add_sub_cancel, true_and]
    refine ⟨?_, ?_, ?_, ?_⟩
    · by_cases hk : d = 0
      · rw [if_pos hk]; omega
      · rw [if_neg hk]
    · by_cases hk : d = 1
      · rw [if_pos hk]; omega
      · rw [if_neg hk]
    · by_cases hk : d = 2
      · rw [if_pos hk]; omega
      · rw [if_neg hk]
    · by_cases hk : d = 3
      · rw [if_pos hk]; omega
      · rw [if_neg hk]
  · have : enterR a = (tz, false) := by
      unfold enterR
      rw [if_neg]
      simpa [enterOk] using hc
    rw [this] at h
    cases h
theorem next_scoped {a t : Tm} (ht : Scoped a t) (h : (nextR t).2 = true) : Scoped a (nextR t).1 := by
  obtain ⟨h1, h2, h3⟩ := ht
  by_cases hc : rightB t = true ∧ t.at (t.d - 1) < gr (t.d - 1)
  · rw [nextR_yes hc.1 hc.2]
    have r1 := (rightB_iff _).1 h1
    have hl := hc.2
    refine ⟨(rightB_iff _).2 ?_, h2, ?_⟩
    · simp only [nextT, Tm.set, Tm.at, cAt, gr] at hl ⊢
      (repeat' split at hl) <;> (repeat' split) <;> omega
    · rw [← h3]
      simp only [leaveT, nextT, Tm.set, Tm.mk.injEq]
      refine ⟨trivial, ?_, ?_, ?_, ?_⟩ <;> (repeat' split) <;> first | rfl | omega
  · rw [nextR_no hc] at h
    cases h
theorem leave_scoped {a t : Tm} (ha : rightB a = true) (ht : Scoped a t) : leaveR t = (a, true) := by
  obtain ⟨h1, h2, h3⟩ := ht
  have := rightB_d ha
  have h4 : 1 < t.d := by omega
  simp [leaveR, leaveOk, h1, h4, h3]
theorem enter_right {a : Tm} (h : (enterR a).2 = true) : rightB a = true := by
  by_cases hc : rightB a = true
  · exact hc
  · have : enterR a = (tz, false) := by simp [enterR, enterOk, hc]
    rw [this] at h
    cases h
end Go.Proofs.Ytfdgeomomafnbaa

/- The four steps do what the timestamps' own do. Plain Lean. -/
import Derived.Test.YtfdgeomomafnbaaHopLaw2
import Derived.Test.YtfdgeomomafnbaaRef1d
namespace Go.Proofs.Ytfdgeomomafnbaa
set_option linter.unusedSimpArgs false
set_option linter.unusedVariables false

theorem st_same (t : Tm) (h : 1 ≤ t.d ∧ t.d ≤ 4) : apOk ⟨t.d, t.d, 0, 0, 0, 0, 0, 0, 0, 0, 0⟩ t = rightB t ∧ (rightB t = true → apR ⟨t.d, t.d, 0, 0, 0, 0, 0, 0, 0, 0, 0⟩ t = t) := by
  have key : rightB t = true → apT ⟨t.d, t.d, 0, 0, 0, 0, 0, 0, 0, 0, 0⟩ t = t := by
    intro hr
    have hr' := (rightB_iff t).1 hr
    obtain ⟨d, a, b, c, e⟩ := t
    simp only at h hr'
    obtain rfl | rfl | rfl | rfl : d = 1 ∨ d = 2 ∨ d = 3 ∨ d = 4 := by omega
    all_goals simp [apT, apC, cAt]
    all_goals omega
  have hb : hopB ⟨t.d, t.d, 0, 0, 0, 0, 0, 0, 0, 0, 0⟩ = true := by
    obtain ⟨d, a, b, c, e⟩ := t
    simp only at h ⊢
    obtain rfl | rfl | rfl | rfl : d = 1 ∨ d = 2 ∨ d = 3 ∨ d = 4 := by omega
    all_goals rfl
  cases hr : rightB t
  · simp [apOk, hr]
  · have : apOk ⟨t.d, t.d, 0, 0, 0, 0, 0, 0, 0, 0, 0⟩ t = true := by simp [apOk, hb, hr, key hr]
    exact ⟨this, fun _ => (if_pos this).trans (key hr)⟩
theorem st_enter (t : Tm) (h : 1 ≤ t.d ∧ t.d ≤ 3) : apOk ⟨t.d, t.d, 1, 0, 0, 0, 0, 0, 0, 0, 0⟩ t = enterOk t ∧ (enterOk t = true → apR ⟨t.d, t.d, 1, 0, 0, 0, 0, 0, 0, 0, 0⟩ t = enterT t) := by
  have he : enterOk t = rightB t := by simp [enterOk]; intro _; omega
  have key : rightB t = true → apT ⟨t.d, t.d, 1, 0, 0, 0, 0, 0, 0, 0, 0⟩ t = enterT t ∧ rightB (enterT t) = true := by
    intro hr
    have hr' := (rightB_iff t).1 hr
    obtain ⟨d, a, b, c, e⟩ := t
    simp only at h hr'
    refine ⟨?_, (rightB_iff _).2 (by simp only [enterT]; omega)⟩
    obtain rfl | rfl | rfl : d = 1 ∨ d = 2 ∨ d = 3 := by omega
    all_goals simp [apT, apC, cAt, enterT]
    all_goals omega
  have hb : hopB ⟨t.d, t.d, 1, 0, 0, 0, 0, 0, 0, 0, 0⟩ = true := by
    obtain ⟨d, a, b, c, e⟩ := t
    simp only at h ⊢
    obtain rfl | rfl | rfl : d = 1 ∨ d = 2 ∨ d = 3 := by omega
    all_goals rfl
  rw [he]
  cases hr : rightB t
  · simp [apOk, hr]
  · have : apOk ⟨t.d, t.d, 1, 0, 0, 0, 0, 0, 0, 0, 0⟩ t = true := by simp [apOk, hb, hr, (key hr).1, (key hr).2]
    exact ⟨this, fun _ => (if_pos this).trans (key hr).1⟩
theorem st_leave (t : Tm) (h : 2 ≤ t.d ∧ t.d ≤ 4) : apOk ⟨t.d, t.d - 1, 0, 0, 0, 0, 0, 0, 0, 0, 0⟩ t = leaveOk t ∧ (leaveOk t = true → apR ⟨t.d, t.d - 1, 0, 0, 0, 0, 0, 0, 0, 0, 0⟩ t = leaveT t) := by
  have he : leaveOk t = rightB t := by simp [leaveOk]; intro _; omega
  have key : rightB t = true → apT ⟨t.d, t.d - 1, 0, 0, 0, 0, 0, 0, 0, 0, 0⟩ t = leaveT t ∧ rightB (leaveT t) = true := by
    intro hr
    have hr' := (rightB_iff t).1 hr
    obtain ⟨d, a, b, c, e⟩ := t
    simp only at h hr'
    obtain rfl | rfl | rfl : d = 2 ∨ d = 3 ∨ d = 4 := by omega
    all_goals
      refine ⟨?_, (rightB_iff _).2 (by simp [leaveT, Tm.set]; omega)⟩
      simp [apT, apC, cAt, leaveT, Tm.set]
      try omega
  have hb : hopB ⟨t.d, t.d - 1, 0, 0, 0, 0, 0, 0, 0, 0, 0⟩ = true := by
    obtain ⟨d, a, b, c, e⟩ := t
    simp only at h ⊢
    obtain rfl | rfl | rfl : d = 2 ∨ d = 3 ∨ d = 4 := by omega
    all_goals rfl
  rw [he]
  cases hr : rightB t
  · simp [apOk, hr]
  · have : apOk ⟨t.d, t.d - 1, 0, 0, 0, 0, 0, 0, 0, 0, 0⟩ t = true := by simp [apOk, hb, hr, (key hr).1, (key hr).2]
    exact ⟨this, fun _ => (if_pos this).trans (key hr).1⟩
theorem st_next (t : Tm) (h : 1 ≤ t.d ∧ t.d ≤ 4) : apOk (nextH t.d) t = nextOk t ∧ (nextOk t = true → apR (nextH t.d) t = nextT t) := by
  have key : rightB t = true → apT (nextH t.d) t = nextT t ∧ rightB (nextT t) = decide (t.at (t.d - 1) < gr (t.d - 1)) := by
    intro hr
    have hr' := (rightB_iff t).1 hr
    obtain ⟨d, a, b, c, e⟩ := t
    simp only at h hr'
    obtain rfl | rfl | rfl | rfl : d = 1 ∨ d = 2 ∨ d = 3 ∨ d = 4 := by omega
    all_goals
      refine ⟨?_, ?_⟩
      · simp [apT, apC, cAt, nextT, nextH, Tm.set, Tm.at]
        try omega
      · rw [Bool.eq_iff_iff, rightB_iff]
        simp [nextT, Tm.set, Tm.at, cAt, gr]
        omega
  have hb : hopB (nextH t.d) = true := by
    obtain ⟨d, a, b, c, e⟩ := t
    simp only at h ⊢
    obtain rfl | rfl | rfl | rfl : d = 1 ∨ d = 2 ∨ d = 3 ∨ d = 4 := by omega
    all_goals decide
  cases hr : rightB t
  · simp [apOk, nextOk, hr]
  · have h1 : apOk (nextH t.d) t = nextOk t := by simp [apOk, nextOk, hb, hr, (key hr).1, (key hr).2]; intro _; rfl
    exact ⟨h1, fun h2 => (if_pos (h1.trans h2)).trans (key hr).1⟩
end Go.Proofs.Ytfdgeomomafnbaa

/- The three steps of ts, and those of the reference, answer alike: one contract for both. -/
import Derived.Test.YtfdgeomomafnbaaRef1c
namespace Go.Proofs.Ytfdgeomomafnbaa
set_option linter.unusedSimpArgs false
set_option linter.unusedVariables false
open Go.RowKit

def enterR (t : Tm) : Tm × Bool := if enterOk t then (enterT t, true) else (tz, false)
def leaveR (t : Tm) : Tm × Bool := if leaveOk t then (leaveT t, true) else (tz, false)
def nextR (t : Tm) : Tm × Bool := if nextOk t then (nextT t, true) else (tz, false)
def Pair (p : Tm × Bool) (w : World) (r : Ending) (w' : World) : Prop := r = .returned (.tuple #[tv p.1, .bool p.2]) ∧ Ext w w'

theorem enter_any (d a b c e : Int) (w : World) :
    Calls Try.prog 17 #[.agg #[.int .i64 d, .int .i64 a, .int .i64 b, .int .i64 c, .int .i64 e]] w fun r w' => r = .returned (.tuple #[tv (enterR ⟨d, a, b, c, e⟩).1, .bool (enterR ⟨d, a, b, c, e⟩).2]) ∧ Ext w w' := by
  cases h : enterOk ⟨d, a, b, c, e⟩
  · have := enter_no d a b c e w h
    simpa [enterR, h] using this
  · have := enter_yes d a b c e w h
    simpa [enterR, h] using this

theorem alike_enter_1 (a : Int) (h : rightB ⟨1, a, 0, 0, 0⟩ = true) : (ofT [a, 0], ofB [a, 0]) = enterR ⟨1, a, 0, 0, 0⟩ := by
  have hr := (rightB_iff _).1 h
  have h2 : rightB (tmOf [a, 0]) = true := (rightB_iff _).2 (by simp [tmOf]; simp at hr; omega)
  simp [ofT, ofB, enterR, enterOk, h, h2]
  simp [tmOf, enterT]

theorem alike_enter_2 (a b : Int) (h : rightB ⟨2, a, b, 0, 0⟩ = true) : (ofT [a, b, 0], ofB [a, b, 0]) = enterR ⟨2, a, b, 0, 0⟩ := by
  have hr := (rightB_iff _).1 h
  have h2 : rightB (tmOf [a, b, 0]) = true := (rightB_iff _).2 (by simp [tmOf]; simp at hr; omega)
  simp [ofT, ofB, enterR, enterOk, h, h2]
  simp [tmOf, enterT]

theorem alike_enter_3 (a b c : Int) (h : rightB ⟨3, a, b, c, 0⟩ = true) : (ofT [a, b, c, 0], ofB [a, b, c, 0]) = enterR ⟨3, a, b, c, 0⟩ := by
  have hr := (rightB_iff _).1 h
  have h2 : rightB (tmOf [a, b, c, 0]) = true := (rightB_iff _).2 (by simp [tmOf]; simp at hr; omega)
  simp [ofT, ofB, enterR, enterOk, h, h2]
  simp [tmOf, enterT]

theorem alike_enter_4 (a b c e : Int) (h : rightB ⟨4, a, b, c, e⟩ = true) : (ofT [a, b, c, e, 0], ofB [a, b, c, e, 0]) = enterR ⟨4, a, b, c, e⟩ := by
  have h2 : rightB (tmOf [a, b, c, e, 0]) = false := by
    rw [← Bool.not_eq_true]
    intro h2
    have := (rightB_iff _).1 h2
    simp [tmOf] at this
  simp [ofT, ofB, enterR, enterOk, h, h2]

theorem step_enter_any (d a b c e : Int) (w : World) :
    Calls Try.prog 18 #[.agg #[.int .i64 d, .int .i64 a, .int .i64 b, .int .i64 c, .int .i64 e], .int .i64 0] w fun r w' => r = .returned (.tuple #[tv (enterR ⟨d, a, b, c, e⟩).1, .bool (enterR ⟨d, a, b, c, e⟩).2]) ∧ Ext w w' := by
  cases h : rightB ⟨d, a, b, c, e⟩
  · have := step_no d a b c e 0 w h
    simpa [enterR, enterOk, h] using this
  · have hr := (rightB_iff _).1 h
    simp only at hr
    obtain ⟨h1, h2, h3, h4, h5, h6, h7, h8, h9, h10, h11, h12, h13⟩ := hr
    obtain rfl | rfl | rfl | rfl : d = 1 ∨ d = 2 ∨ d = 3 ∨ d = 4 := by omega
    · obtain rfl : b = 0 := by omega
      obtain rfl : c = 0 := by omega
      obtain rfl : e = 0 := by omega
      rw [← alike_enter_1 a h]
      exact step_enter_1 a w h
    · obtain rfl : c = 0 := by omega
      obtain rfl : e = 0 := by omega
      rw [← alike_enter_2 a b h]
      exact step_enter_2 a b w h
    · obtain rfl : e = 0 := by omega
      rw [← alike_enter_3 a b c h]
      exact step_enter_3 a b c w h
    · rw [← alike_enter_4 a b c e h]
      exact step_enter_4 a b c e w h

theorem leave_any (d a b c e : Int) (w : World) :
    Calls Try.prog 19 #[.agg #[.int .i64 d, .int .i64 a, .int .i64 b, .int .i64 c, .int .i64 e]] w fun r w' => r = .returned (.tuple #[tv (leaveR ⟨d, a, b, c, e⟩).1, .bool (leaveR ⟨d, a, b, c, e⟩).2]) ∧ Ext w w' := by
  cases h : leaveOk ⟨d, a, b, c, e⟩
  · have := leave_no d a b c e w h
    simpa [leaveR, h] using this
  · have := leave_yes d a b c e w h
    simpa [leaveR, h] using this

theorem alike_leave_1 (a : Int) (h : rightB ⟨1, a, 0, 0, 0⟩ = true) : (ofT [], ofB []) = leaveR ⟨1, a, 0, 0, 0⟩ := by
  have h2 : rightB (tmOf []) = false := by
    rw [← Bool.not_eq_true]
    intro h2
    have := (rightB_iff _).1 h2
    simp [tmOf] at this
  simp [ofT, ofB, leaveR, leaveOk, h, h2]

theorem alike_leave_2 (a b : Int) (h : rightB ⟨2, a, b, 0, 0⟩ = true) : (ofT [a], ofB [a]) = leaveR ⟨2, a, b, 0, 0⟩ := by
  have hr := (rightB_iff _).1 h
  have h2 : rightB (tmOf [a]) = true := (rightB_iff _).2 (by simp [tmOf]; simp at hr; omega)
  simp [ofT, ofB, leaveR, leaveOk, h, h2]
  simp [tmOf, leaveT, Tm.set]

theorem alike_leave_3 (a b c : Int) (h : rightB ⟨3, a, b, c, 0⟩ = true) : (ofT [a, b], ofB [a, b]) = leaveR ⟨3, a, b, c, 0⟩ := by
  have hr := (rightB_iff _).1 h
  have h2 : rightB (tmOf [a, b]) = true := (rightB_iff _).2 (by simp [tmOf]; simp at hr; omega)
  simp [ofT, ofB, leaveR, leaveOk, h, h2]
  simp [tmOf, leaveT, Tm.set]

theorem alike_leave_4 (a b c e : Int) (h : rightB ⟨4, a, b, c, e⟩ = true) : (ofT [a, b, c], ofB [a, b, c]) = leaveR ⟨4, a, b, c, e⟩ := by
  have hr := (rightB_iff _).1 h
  have h2 : rightB (tmOf [a, b, c]) = true := (rightB_iff _).2 (by simp [tmOf]; simp at hr; omega)
  simp [ofT, ofB, leaveR, leaveOk, h, h2]
  simp [tmOf, leaveT, Tm.set]

theorem step_leave_any (d a b c e : Int) (w : World) :
    Calls Try.prog 18 #[.agg #[.int .i64 d, .int .i64 a, .int .i64 b, .int .i64 c, .int .i64 e], .int .i64 1] w fun r w' => r = .returned (.tuple #[tv (leaveR ⟨d, a, b, c, e⟩).1, .bool (leaveR ⟨d, a, b, c, e⟩).2]) ∧ Ext w w' := by
  cases h : rightB ⟨d, a, b, c, e⟩
  · have := step_no d a b c e 1 w h
    simpa [leaveR, leaveOk, h] using this
  · have hr := (rightB_iff _).1 h
    simp only at hr
    obtain ⟨h1, h2, h3, h4, h5, h6, h7, h8, h9, h10, h11, h12, h13⟩ := hr
    obtain rfl | rfl | rfl | rfl : d = 1 ∨ d = 2 ∨ d = 3 ∨ d = 4 := by omega
    · obtain rfl : b = 0 := by omega
      obtain rfl : c = 0 := by omega
      obtain rfl : e = 0 := by omega
      rw [← alike_leave_1 a h]
      exact step_leave_1 a w h
    · obtain rfl : c = 0 := by omega
      obtain rfl : e = 0 := by omega
      rw [← alike_leave_2 a b h]
      exact step_leave_2 a b w h
    · obtain rfl : e = 0 := by omega
      rw [← alike_leave_3 a b c h]
      exact step_leave_3 a b c w h
    · rw [← alike_leave_4 a b c e h]
      exact step_leave_4 a b c e w h

theorem next_any (d a b c e : Int) (w : World) :
    Calls Try.prog 20 #[.agg #[.int .i64 d, .int .i64 a, .int .i64 b, .int .i64 c, .int .i64 e]] w fun r w' => r = .returned (.tuple #[tv (nextR ⟨d, a, b, c, e⟩).1, .bool (nextR ⟨d, a, b, c, e⟩).2]) ∧ Ext w w' := by
  cases h : nextOk ⟨d, a, b, c, e⟩
  · have := next_no d a b c e w h
    simpa [nextR, h] using this
  · have := next_yes d a b c e w h
    simpa [nextR, h] using this

theorem alike_next_1 (a : Int) (h : rightB ⟨1, a, 0, 0, 0⟩ = true) : (ofT [a + 1], ofB [a + 1]) = nextR ⟨1, a, 0, 0, 0⟩ := by
  have hr := (rightB_iff _).1 h
  simp at hr
  by_cases hx : a < 1048576
  · have h2 : rightB (tmOf [a + 1]) = true := (rightB_iff _).2 (by simp [tmOf]; omega)
    simp [ofT, ofB, nextR, nextOk, h, h2, Tm.at, cAt, gr, hx]
    simp [tmOf, nextT, Tm.set, Tm.at, cAt]
  · have h2 : rightB (tmOf [a + 1]) = false := by
      rw [← Bool.not_eq_true]
      intro h2
      have := (rightB_iff _).1 h2
      simp [tmOf] at this
      omega
    simp [ofT, ofB, nextR, nextOk, h, h2, Tm.at, cAt, gr, hx]

theorem alike_next_2 (a b : Int) (h : rightB ⟨2, a, b, 0, 0⟩ = true) : (ofT [a, b + 1], ofB [a, b + 1]) = nextR ⟨2, a, b, 0, 0⟩ := by
  have hr := (rightB_iff _).1 h
  simp at hr
  by_cases hx : b < 64
  · have h2 : rightB (tmOf [a, b + 1]) = true := (rightB_iff _).2 (by simp [tmOf]; omega)
    simp [ofT, ofB, nextR, nextOk, h, h2, Tm.at, cAt, gr, hx]
    simp [tmOf, nextT, Tm.set, Tm.at, cAt]
  · have h2 : rightB (tmOf [a, b + 1]) = false := by
      rw [← Bool.not_eq_true]
      intro h2
      have := (rightB_iff _).1 h2
      simp [tmOf] at this
      omega
    simp [ofT, ofB, nextR, nextOk, h, h2, Tm.at, cAt, gr, hx]

theorem alike_next_3 (a b c : Int) (h : rightB ⟨3, a, b, c, 0⟩ = true) : (ofT [a, b, c + 1], ofB [a, b, c + 1]) = nextR ⟨3, a, b, c, 0⟩ := by
  have hr := (rightB_iff _).1 h
  simp at hr
  by_cases hx : c < 64
  · have h2 : rightB (tmOf [a, b, c + 1]) = true := (rightB_iff _).2 (by simp [tmOf]; omega)
    simp [ofT, ofB, nextR, nextOk, h, h2, Tm.at, cAt, gr, hx]
    simp [tmOf, nextT, Tm.set, Tm.at, cAt]
  · have h2 : rightB (tmOf [a, b, c + 1]) = false := by
      rw [← Bool.not_eq_true]
      intro h2
      have := (rightB_iff _).1 h2
      simp [tmOf] at this
      omega
    simp [ofT, ofB, nextR, nextOk, h, h2, Tm.at, cAt, gr, hx]

theorem alike_next_4 (a b c e : Int) (h : rightB ⟨4, a, b, c, e⟩ = true) : (ofT [a, b, c, e + 1], ofB [a, b, c, e + 1]) = nextR ⟨4, a, b, c, e⟩ := by
  have hr := (rightB_iff _).1 h
  simp at hr
  by_cases hx : e < 64
  · have h2 : rightB (tmOf [a, b, c, e + 1]) = true := (rightB_iff _).2 (by simp [tmOf]; omega)
    simp [ofT, ofB, nextR, nextOk, h, h2, Tm.at, cAt, gr, hx]
    simp [tmOf, nextT, Tm.set, Tm.at, cAt]
  · have h2 : rightB (tmOf [a, b, c, e + 1]) = false := by
      rw [← Bool.not_eq_true]
      intro h2
      have := (rightB_iff _).1 h2
      simp [tmOf] at this
      omega
    simp [ofT, ofB, nextR, nextOk, h, h2, Tm.at, cAt, gr, hx]

theorem step_next_any (d a b c e : Int) (w : World) :
    Calls Try.prog 18 #[.agg #[.int .i64 d, .int .i64 a, .int .i64 b, .int .i64 c, .int .i64 e], .int .i64 2] w fun r w' => r = .returned (.tuple #[tv (nextR ⟨d, a, b, c, e⟩).1, .bool (nextR ⟨d, a, b, c, e⟩).2]) ∧ Ext w w' := by
  cases h : rightB ⟨d, a, b, c, e⟩
  · have := step_no d a b c e 2 w h
    simpa [nextR, nextOk, h] using this
  · have hr := (rightB_iff _).1 h
    simp only at hr
    obtain ⟨h1, h2, h3, h4, h5, h6, h7, h8, h9, h10, h11, h12, h13⟩ := hr
    obtain rfl | rfl | rfl | rfl : d = 1 ∨ d = 2 ∨ d = 3 ∨ d = 4 := by omega
    · obtain rfl : b = 0 := by omega
      obtain rfl : c = 0 := by omega
      obtain rfl : e = 0 := by omega
      rw [← alike_next_1 a h]
      exact step_next_1 a w h (by omega) (by omega)
    · obtain rfl : c = 0 := by omega
      obtain rfl : e = 0 := by omega
      rw [← alike_next_2 a b h]
      exact step_next_2 a b w h (by omega) (by omega)
    · obtain rfl : e = 0 := by omega
      rw [← alike_next_3 a b c h]
      exact step_next_3 a b c w h (by omega) (by omega)
    · rw [← alike_next_4 a b c e h]
      exact step_next_4 a b c e w h (by omega) (by omega)

end Go.Proofs.Ytfdgeomomafnbaa

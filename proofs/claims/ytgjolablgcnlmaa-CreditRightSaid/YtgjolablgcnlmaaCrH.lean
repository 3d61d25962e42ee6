/- Credit: the four things at a right lane, plain. -/
import Derived.Test.YtgjolablgcnlmaaCrG
namespace Go.Proofs.Ytgjolablgcnlmaa
set_option linter.unusedSimpArgs false
set_option linter.unusedVariables false
open Go.RowKit

section
variable {s m b : Int} {xs ys : List Int} (h : rightL s m b xs.length ys.length = true)
include h
theorem mayG (n k : Int) : mayN ⟨s, m, b, xs, ys⟩ n k = if 0 < n then 0 else k := by
  unfold mayN mayL
  rw [show rightN ⟨s, m, b, xs, ys⟩ = true from h, if_pos rfl]
  split <;> split <;> first | rfl | omega
theorem rightG : 0 ≤ m ∧ 0 ≤ b ∧ m ≤ 4096 ∧ b ≤ 4096 := by
  unfold rightL at h
  have := of_decide_eq_true h
  omega
theorem sendG (v : Int) (hm : 0 < m) : sendN ⟨s, m, b, xs, ys⟩ v = ⟨s, m - 1, b, xs ++ [v], ys⟩ := by
  unfold sendN
  rw [mayG h, if_pos hm, if_pos rfl]
theorem sendG' (v : Int) (hm : ¬ 0 < m) : sendN ⟨s, m, b, xs, ys⟩ v = ⟨s, m, b, xs, ys⟩ := by
  unfold sendN
  rw [mayG h, if_neg hm, if_neg (by decide)]
theorem returnG : returnN ⟨s, m, b, xs, ys⟩ = ⟨s, m + b, 0, xs, ys⟩ := by
  unfold returnN
  rw [mayG h]
  have := (rightG h).2.1
  by_cases hb : 0 < b
  · rw [if_pos hb, if_pos rfl]
  · obtain rfl : b = 0 := by omega
    rw [if_neg hb, if_neg (by decide), Int.add_zero]
end
section
variable {s m b x : Int} {xs ys : List Int}
theorem arriveG (h : rightL s m b (x :: xs).length ys.length = true) : arriveN ⟨s, m, b, x :: xs, ys⟩ = ⟨s, m, b, xs, ys ++ [x]⟩ := by
  unfold arriveN
  rw [mayG h, if_pos (by simp)]
  rfl
theorem arriveG' (h : rightL s m b ([] : List Int).length ys.length = true) : arriveN ⟨s, m, b, [], ys⟩ = ⟨s, m, b, [], ys⟩ := by
  unfold arriveN
  rw [mayG h, if_neg (by simp)]
theorem takeG (h : rightL s m b xs.length (x :: ys).length = true) : takeN ⟨s, m, b, xs, x :: ys⟩ = ⟨s, m, b + 1, xs, ys⟩ ∧ tookN ⟨s, m, b, xs, x :: ys⟩ = x := by
  unfold takeN tookN
  rw [mayG h, if_pos (by simp), if_pos (by simp)]
  exact ⟨rfl, rfl⟩
theorem takeG' (h : rightL s m b xs.length ([] : List Int).length = true) : takeN ⟨s, m, b, xs, []⟩ = ⟨s, m, b, xs, []⟩ ∧ tookN ⟨s, m, b, xs, []⟩ = 0 := by
  unfold takeN tookN
  rw [mayG h, if_neg (by simp), if_neg (by simp)]
  exact ⟨rfl, rfl⟩
end
/-- The error: none, just if there is something. -/
theorem errG {s m b : Int} {xs ys : List Int} (h : rightL s m b xs.length ys.length = true) {n k e : Int} (hk : k ≠ 0) (he : mayN ⟨s, m, b, xs, ys⟩ n k = e) {c : Bool} (hc : decide (0 < n) = c) : (e == 0) = c ∧ (e == k) = !c := by
  subst he hc
  rw [mayG h]
  by_cases hn : 0 < n
  · rw [if_pos hn, decide_eq_true hn]
    exact ⟨rfl, by simp; exact fun e => hk e.symm⟩
  · rw [if_neg hn, decide_eq_false hn]
    exact ⟨by simpa using hk, by simp⟩
theorem lenG {l : Ln} {v : Int} (h1 : l.way.length ≤ 100) (h2 : l.waits.length ≤ 100) : ((sendN l v).way.length ≤ 1073741823 ∧ (sendN l v).waits.length ≤ 1073741823) ∧ ((arriveN l).way.length ≤ 1073741823 ∧ (arriveN l).waits.length ≤ 1073741823) ∧ ((takeN l).way.length ≤ 1073741823 ∧ (takeN l).waits.length ≤ 1073741823) := by
  refine ⟨?_, ?_, ?_⟩
  · unfold sendN; split <;> constructor <;> (try simp) <;> omega
  · unfold arriveN; split <;> constructor <;> (try simp) <;> omega
  · unfold takeN; split <;> constructor <;> (try simp) <;> omega
/-- The tail of a row. -/
theorem ri_tail {w : World} {bb off n c : Nat} {x : Int} {xt : List Int} (h : Ri w .i64 (.slice (some ⟨bb, off, none⟩) n c) (x :: xt)) (a : Option Addr) (c' : Nat) (ha : 0 < xt.length → a = some ⟨bb, off + 1, none⟩) : Ri w .i64 (.slice a xt.length c') xt := by
  obtain ⟨_, _, he, -⟩ := Ri.form h
  obtain ⟨-, rfl, -⟩ := Value.slice.inj he
  exact Rd.tail (k := 1) (n := xt.length) h a c' ha
end Go.Proofs.Ytgjolablgcnlmaa

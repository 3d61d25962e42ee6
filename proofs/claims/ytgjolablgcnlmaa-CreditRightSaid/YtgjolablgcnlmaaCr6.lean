/- Credit: what is kept, whatever is done. Plain Lean. -/
import Derived.Test.YtgjolablgcnlmaaCr5
namespace Go.Proofs.Ytgjolablgcnlmaa
set_option linter.unusedSimpArgs false
set_option linter.unusedVariables false

structure Keeps (l : Ln) (n sent taken : Int) : Prop where
  s : l.s = n
  n1 : 1 ≤ n
  n2 : n ≤ 255
  m0 : 0 ≤ l.m
  b0 : 0 ≤ l.b
  sum : l.m + l.b + l.way.length + l.waits.length = n
  t0 : 0 ≤ taken
  ts : taken ≤ sent
  list : l.waits ++ l.way = (List.range (sent - taken).toNat).map fun i : Nat => taken + 1 + (i : Int)

theorem Keeps.right {l : Ln} {n s t : Int} (h : Keeps l n s t) : rightN l = true := by
  obtain ⟨h1, h2, h3, h4, h5, h6, _⟩ := h
  simp only [rightN, rightL, decide_eq_true_eq]
  omega
theorem Keeps.many {l : Ln} {n s t : Int} (h : Keeps l n s t) : (l.way.length : Int) + l.waits.length = s - t := by
  have := congrArg List.length h.list
  simp at this
  have := h.ts
  omega
theorem Keeps.may {l : Ln} {n s t : Int} (h : Keeps l n s t) (k e : Int) : mayN l k e = if k < 1 then e else 0 := by
  unfold mayN mayL
  rw [if_pos h.right]
theorem range_succ_int (t : Int) (k : Nat) : (List.range (k + 1)).map (fun i : Nat => t + 1 + (i : Int)) = (t + 1) :: (List.range k).map fun i : Nat => (t + 1) + 1 + (i : Int) := by
  rw [List.range_succ_eq_map, List.map_cons, List.map_map]
  congr 1
  · simp
  · apply List.map_congr_left
    intro i _
    simp only [Function.comp]
    omega

theorem Keeps.send {l : Ln} {n s t : Int} (h : Keeps l n s t) : (mayN l l.m 9 = 0 ∧ Keeps (sendN l (s + 1)) n (s + 1) t) ∨ (mayN l l.m 9 = 9 ∧ Keeps (sendN l (s + 1)) n s t) := by
  have hm := h.may l.m 9
  by_cases h1 : l.m < 1
  · right
    rw [if_pos h1] at hm
    refine ⟨hm, ?_⟩
    have : sendN l (s + 1) = l := by unfold sendN; rw [if_neg (by rw [hm]; decide)]
    rw [this]; exact h
  · left
    rw [if_neg h1] at hm
    refine ⟨hm, ?_⟩
    have : sendN l (s + 1) = { l with m := l.m - 1, way := l.way ++ [s + 1] } := by unfold sendN; rw [if_pos hm]
    rw [this]
    have hts := h.ts
    refine ⟨h.s, h.n1, h.n2, by have := h.m0; simp only; omega, h.b0, ?_, h.t0, by omega, ?_⟩
    · have := h.sum; simp; omega
    · simp only
      rw [← List.append_assoc, h.list, show (s + 1 - t).toNat = (s - t).toNat + 1 by omega, List.range_succ, List.map_append]
      simp
      omega
theorem Keeps.arrive {l : Ln} {n s t : Int} (h : Keeps l n s t) : Keeps (arriveN l) n s t ∧ (arriveN l).way.length = l.way.length - 1 ∧ (0 < l.way.length → (arriveN l).waits.length = l.waits.length + 1) ∧ (l.way.length = 0 → arriveN l = l) := by
  have hm := h.may l.way.length 12
  cases hw : l.way with
  | nil =>
    rw [hw] at hm
    have : arriveN l = l := by unfold arriveN; rw [hw, if_neg (by rw [hm]; decide)]
    rw [this, hw]
    exact ⟨h, rfl, fun h0 => by simp at h0, fun _ => rfl⟩
  | cons x xs =>
    rw [hw, if_neg (by simp; omega)] at hm
    have : arriveN l = { l with way := xs, waits := l.waits ++ [x] } := by unfold arriveN; rw [hw, if_pos hm]; rfl
    rw [this]
    refine ⟨⟨h.s, h.n1, h.n2, h.m0, h.b0, ?_, h.t0, h.ts, ?_⟩, by simp, by simp, by simp⟩
    · have := h.sum; rw [hw] at this; simp at this ⊢; omega
    · have := h.list; rw [hw] at this; simpa using this
theorem Keeps.take {l : Ln} {n s t : Int} (h : Keeps l n s t) :
    (mayN l l.waits.length 12 = 0 ∧ tookN l = t + 1 ∧ Keeps (takeN l) n s (t + 1) ∧ (takeN l).way = l.way ∧ (takeN l).waits.length + 1 = l.waits.length) ∨ (mayN l l.waits.length 12 = 12 ∧ takeN l = l ∧ l.waits = []) := by
  have hm := h.may l.waits.length 12
  cases hw : l.waits with
  | nil =>
    rw [hw] at hm
    right
    refine ⟨by rw [hm]; rfl, ?_, rfl⟩
    unfold takeN
    rw [hw, if_neg (by rw [hm]; decide)]
  | cons x xs =>
    rw [hw, if_neg (by simp; omega)] at hm
    left
    have hl := h.list
    have hmany := h.many
    rw [hw] at hl hmany
    have hts : t + 1 ≤ s := by simp at hmany; omega
    rw [show (s - t).toNat = (s - (t + 1)).toNat + 1 by omega, range_succ_int, List.cons_append] at hl
    obtain ⟨rfl, hl2⟩ := List.cons.inj hl
    have : takeN l = { l with waits := xs, b := l.b + 1 } := by unfold takeN; rw [hw, if_pos hm]; rfl
    refine ⟨hm, by unfold tookN; rw [hw, if_pos hm]; rfl, ?_, by rw [this], by rw [this]; simp⟩
    rw [this]
    refine ⟨h.s, h.n1, h.n2, h.m0, by have := h.b0; simp only; omega, ?_, by have := h.t0; omega, hts, hl2⟩
    have := h.sum; rw [hw] at this; simp at this ⊢; omega
theorem Keeps.back {l : Ln} {n s t : Int} (h : Keeps l n s t) : Keeps (returnN l) n s t ∧ (returnN l).way = l.way ∧ (returnN l).waits = l.waits ∧ (returnN l).b = 0 := by
  have hm := h.may l.b 12
  have hb := h.b0
  by_cases h1 : l.b < 1
  · rw [if_pos h1] at hm
    have : returnN l = l := by unfold returnN; rw [if_neg (by rw [hm]; decide)]
    rw [this]; exact ⟨h, rfl, rfl, by omega⟩
  · rw [if_neg h1] at hm
    have : returnN l = { l with m := l.m + l.b, b := 0 } := by unfold returnN; rw [if_pos hm]
    rw [this]
    refine ⟨⟨h.s, h.n1, h.n2, by have := h.m0; simp only; omega, by simp, ?_, h.t0, h.ts, h.list⟩, rfl, rfl, rfl⟩
    have := h.sum; simp; omega
theorem Keeps.short {l : Ln} {n s t : Int} (h : Keeps l n s t) : l.way.length ≤ 255 ∧ l.waits.length ≤ 255 := by
  have := h.sum
  have := h.m0
  have := h.b0
  have := h.n2
  omega
theorem Keeps.new (n : Int) (h1 : 1 ≤ n) (h2 : n ≤ 255) : Keeps ⟨n, n, 0, [], []⟩ n 0 0 := ⟨rfl, h1, h2, by simp only; omega, by simp, by simp, by simp, by simp, by simp⟩
end Go.Proofs.Ytgjolablgcnlmaa

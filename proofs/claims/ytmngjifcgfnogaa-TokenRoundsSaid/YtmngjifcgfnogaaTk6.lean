/- law 17: TokenRounds' drawn regions; its plain part. -/
import Derived.Test.YtmngjifcgfnogaaLaw17a
namespace Go.Proofs.Ytmngjifcgfnogaa
set_option linter.unusedSimpArgs false
set_option linter.unusedVariables false
set_option maxRecDepth 100000
open Go.RowKit

/-- The token's state ahead of a visit. -/
noncomputable def stR (low : List Tm) (n : Nat) (c : Int) (v : Nat) : Tk :=
  if v < n then ⟨0, v, c, 0, [[]]⟩ else if v < 2 * n then ⟨1, ((v - n : Nat) : Int), c, 0, [chT (low.take ((v - n) * low.length / n))]⟩ else ⟨0, 0, 1 - c, 0, [[]]⟩
def atR (n v : Nat) : Nat := if v < n then v else v - n
def ownR (low : List Tm) (n k : Nat) : List Tm := (low.take ((k + 1) * low.length / n)).drop (k * low.length / n)
noncomputable def telR (low : List Tm) (n v : Nat) : List (List Tm) := if v + 1 = 2 * n then [chT low] else []
theorem chT_right (l : List Tm) : sameB (chT l) (chT (chT l)) = true := sameB_yes (chT_idem l).symm
theorem own_next (low : List Tm) (n k : Nat) : low.take (k * low.length / n) ++ ownR low n k = low.take ((k + 1) * low.length / n) := by
  unfold ownR
  have h : k * low.length / n ≤ (k + 1) * low.length / n := Nat.div_le_div_right (Nat.mul_le_mul_right _ (by omega))
  have h2 : low.take (k * low.length / n) = (low.take ((k + 1) * low.length / n)).take (k * low.length / n) := by rw [List.take_take, Nat.min_eq_left h]
  rw [h2, List.take_append_drop]
theorem white_zero (p a c : Int) (l r : List (List Tm)) : whiteS ⟨p, a, c, 0, l⟩ (Un.zero r) = 0 := by
  unfold whiteS pick Un.zero
  dsimp only
  split <;> simp [wrap64]
theorem right_one {p a c : Int} {l : List Tm} {n : Nat} (hp : 0 ≤ p ∧ p ≤ 1) (hc : 0 ≤ c ∧ c ≤ 1) (hn : 1 ≤ n ∧ n ≤ 64) (ha : 0 ≤ a ∧ a < n) (hl : sameB l (chT l) = true) : rightK ⟨p, a, c, 0, [l]⟩ 1 n = true := by
  unfold rightK Tk.bad
  simp only [decide_eq_false (p := p < 0) (by omega), decide_eq_false (p := 1 < p) (by omega), decide_eq_false (p := c < 0) (by omega), decide_eq_false (p := 1 < c) (by omega), decide_eq_false (p := (n : Int) < 1) (by omega), decide_eq_false (p := 64 < (n : Int)) (by omega), decide_eq_false (p := a < 0) (by omega), decide_eq_false (p := (n : Int) ≤ a) (by omega)]
  simp [badC, hl]
theorem vis_R (low : List Tm) (n : Nat) (c : Int) (v : Nat) (hn : 1 ≤ n ∧ n ≤ 64) (hc : 0 ≤ c ∧ c ≤ 1) (hv : v < 2 * n) :
    visS (stR low n c v) (Un.zero [[]]) [ownR low n (atR n v)] n = (stR low n c (v + 1), decide (v < n), telR low n v, decide (v + 1 = 2 * n)) := by
  have hnil : sameB ([] : List Tm) (chT []) = true := sameB_yes rfl
  by_cases h1 : v < n
  · have hs : stR low n c v = ⟨0, v, c, 0, [[]]⟩ := by unfold stR; rw [if_pos h1]
    rw [hs]
    unfold visS
    rw [if_neg (by
      have := right_one (p := 0) (a := v) (c := c) (l := []) (n := n) (by omega) hc hn (by omega) hnil
      simp only [List.length_singleton]
      rw [show ((1 : Nat) : Int) = 1 from rfl, this]
      simp [Un.zero])]
    rw [if_pos rfl, decide_eq_true h1, decide_eq_false (p := v + 1 = 2 * n) (by omega)]
    dsimp only [List.length_singleton]
    rw [show telR low n v = [] by unfold telR; rw [if_neg (by omega)]]
    by_cases h2 : v + 1 < n
    · have e : stR low n c (v + 1) = ⟨0, ((v + 1 : Nat) : Int), c, 0, [[]]⟩ := by unfold stR; rw [if_pos h2]
      rw [if_pos (show (v : Int) + 1 < n by omega), e]
      simp
    · have e : stR low n c (v + 1) = ⟨1, 0, c, 0, [[]]⟩ := by
        unfold stR
        rw [if_neg h2, if_pos (by omega), show v + 1 - n = 0 by omega]
        simp [chT]
      rw [if_neg (show ¬ (v : Int) + 1 < n by omega), e]
      rfl
  · have hs : stR low n c v = ⟨1, ((v - n : Nat) : Int), c, 0, [chT (low.take ((v - n) * low.length / n))]⟩ := by unfold stR; rw [if_neg h1, if_pos hv]
    have ha : atR n v = v - n := by unfold atR; rw [if_neg h1]
    rw [hs, ha]
    obtain ⟨k, hk⟩ : ∃ k, v - n = k := ⟨_, rfl⟩
    rw [hk]
    have hkn : k < n := by omega
    have hcnt : cntAt [chT (low.take (k * low.length / n))] [ownR low n k] (Un.zero [[]]).r 1 = [chT (low.take ((k + 1) * low.length / n))] := by
      simp only [cntAt, Un.zero]
      simp only [List.getD_cons_zero, List.append_nil, List.set_cons_zero]
      rw [chT_left, own_next]
    unfold visS
    rw [if_neg (by
      have := right_one (p := 1) (a := k) (c := c) (l := chT (low.take (k * low.length / n))) (n := n) (by omega) hc hn (by omega) (chT_right _)
      simp only [List.length_singleton]
      rw [show ((1 : Nat) : Int) = 1 from rfl, this]
      simp [Un.zero])]
    rw [if_neg (show ¬ (1 : Int) = 0 by decide), decide_eq_false h1, white_zero]
    dsimp only [List.length_singleton]
    rw [hcnt]
    by_cases h2 : k + 1 < n
    · have e : stR low n c (v + 1) = ⟨1, ((k + 1 : Nat) : Int), c, 0, [chT (low.take ((k + 1) * low.length / n))]⟩ := by
        unfold stR
        rw [if_neg (show ¬ v + 1 < n by omega), if_pos (show v + 1 < 2 * n by omega), show v + 1 - n = k + 1 by omega]
      rw [if_pos (show (k : Int) + 1 < n by omega), decide_eq_false (p := v + 1 = 2 * n) (by omega), e, show telR low n v = [] by unfold telR; rw [if_neg (by omega)]]
      simp
    · have e : stR low n c (v + 1) = ⟨0, 0, 1 - c, 0, [[]]⟩ := by
        unfold stR
        rw [if_neg (show ¬ v + 1 < n by omega), if_neg (show ¬ v + 1 < 2 * n by omega)]
      have hkn' : k + 1 = n := by omega
      rw [if_neg (show ¬ (k : Int) + 1 < n by omega), if_neg (by simp), decide_eq_true (p := v + 1 = 2 * n) (by omega), e, show telR low n v = [chT low] by unfold telR; rw [if_pos (by omega)]]
      rw [hkn', Nat.mul_comm n, Nat.mul_div_cancel _ (by omega), List.take_length]
      rfl
theorem stR_next (low : List Tm) (n : Nat) (c : Int) : stR low n c (2 * n) = ⟨0, 0, 1 - c, 0, [[]]⟩ := by
  unfold stR
  rw [if_neg (by omega), if_neg (by omega)]
theorem stR_zero (low : List Tm) (n : Nat) (c : Int) (hn : 1 ≤ n) : stR low n c 0 = ⟨0, 0, c, 0, [[]]⟩ := by
  unfold stR
  rw [if_pos (by omega)]
  rfl
theorem stR_at (low : List Tm) (n : Nat) (c : Int) (v : Nat) (hv : v < 2 * n) : (stR low n c v).a = (atR n v : Nat) ∧ (stR low n c v).l.length = 1 := by
  unfold stR atR
  by_cases h1 : v < n
  · rw [if_pos h1, if_pos h1]
    exact ⟨rfl, rfl⟩
  · rw [if_neg h1, if_pos hv, if_neg h1]
    exact ⟨rfl, rfl⟩
end Go.Proofs.Ytmngjifcgfnogaa

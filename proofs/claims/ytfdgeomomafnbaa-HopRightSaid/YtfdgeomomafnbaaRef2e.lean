/- The parts of two steps put together. Plain Lean. -/
import Derived.Test.YtfdgeomomafnbaaRef2c
namespace Go.Proofs.Ytfdgeomomafnbaa
set_option linter.unusedSimpArgs false
set_option linter.unusedVariables false

/-- The step of m places kept, n in all, that add these. -/
def mkH (f : Int) (m n : Nat) (V : Nat → Int) : Hp := ⟨f, m, (n - m : Nat), if 0 < m then V 0 else 0, if 1 < m then V 1 else 0, if 2 < m then V 2 else 0, if 3 < m then V 3 else 0,
  if m < n then V m else 0, if m + 1 < n then V (m + 1) else 0, if m + 2 < n then V (m + 2) else 0, if m + 3 < n then V (m + 3) else 0⟩
def kO (m i : Nat) : Int := if i < m then i else -1


theorem hp_eq {x y : Hp} (hf : x.f = y.f) (hk : x.k = y.k) (hl : x.l = y.l) (h1 : ∀ i, inB i → hA x i = hA y i) (h2 : ∀ i, inB i → hT x i = hT y i) : x = y := by
  have a0 := h1 0 ⟨by decide, by decide⟩
  have a1 := h1 1 ⟨by decide, by decide⟩
  have a2 := h1 2 ⟨by decide, by decide⟩
  have a3 := h1 3 ⟨by decide, by decide⟩
  have t0 := h2 0 ⟨by decide, by decide⟩
  have t1 := h2 1 ⟨by decide, by decide⟩
  have t2 := h2 2 ⟨by decide, by decide⟩
  have t3 := h2 3 ⟨by decide, by decide⟩
  clear h1 h2
  cases x
  cases y
  simp [hA, hT, cAt] at *
  simp [*]
theorem mkH_A (f : Int) (m n : Nat) (V : Nat → Int) {i : Int} (hi : inB i) : hA (mkH f m n V) i = if i < (m : Int) then V i.toNat else 0 := by
  rcases inB_cases hi with rfl | rfl | rfl | rfl
  all_goals
    simp only [hA, mkH, cAt]
    simp
    try (congr 1; simp; omega)
theorem mkH_T (f : Int) (m n : Nat) (V : Nat → Int) {j : Int} (hj : inB j) : hT (mkH f m n V) j = if (m : Int) + j < n then V ((m : Int) + j).toNat else 0 := by
  rcases inB_cases hj with rfl | rfl | rfl | rfl
  · simp only [hT, mkH, cAt]; simp
  · simp only [hT, mkH, cAt, show (((m : Int) + 1).toNat) = m + 1 by omega, show ((m : Int) + 1 < n) = (m + 1 < n) by simp; omega]; simp
  · simp only [hT, mkH, cAt, show (((m : Int) + 2).toNat) = m + 2 by omega, show ((m : Int) + 2 < n) = (m + 2 < n) by simp; omega]; simp
  · simp only [hT, mkH, cAt, show (((m : Int) + 3).toNat) = m + 3 by omega, show ((m : Int) + 3 < n) = (m + 3 < n) by simp; omega]; simp
/-- What the parts of two steps put together add, place by place. -/
def tV (x y : Hp) (i : Nat) : Int := (if (i : Int) < y.k then ptV x i else 0) + ptV y i
theorem then_mk (x y : Hp) (hx : hopB x = true) (hy : hopB y = true) (hg : x.k + x.l = y.f) (m n : Nat) (hm : imin x.k y.k = m) (hn : y.k + y.l = n) : thenH x y = mkH x.f m n (tV x y) := by
  have bx := hopB_bd hx
  have bY := hopB_bd hy
  obtain ⟨e1, e2, e3⟩ := then_fkl hx hy hg
  have hmm : imin x.k y.k = x.k ∧ x.k ≤ y.k ∨ imin x.k y.k = y.k ∧ y.k < x.k := by unfold imin; split <;> omega
  have hl1 := th1_l x y (by omega) y.k.toNat
  refine hp_eq e1 (e2.trans hm) ?_ ?_ ?_
  · show (thenH x y).l = ((n - m : Nat) : Int)
    omega
  · intro i hi
    obtain ⟨f1, f2, f3⟩ := th2_f y (th1 x y y.k.toNat) y.l.toNat
    have hA1 := th1_A x y (by omega) hi y.k.toNat (by omega) (by omega)
    rw [mkH_A _ _ _ _ hi]
    show hA (th2 y (th1 x y y.k.toNat) y.l.toNat) i = _
    rw [f3, hA1]
    by_cases h : i < (m : Int)
    · have hi' := hi.1
      rw [if_pos (by omega), if_pos h]
      have hc : ((i.toNat : Nat) : Int) = i := by omega
      unfold tV ptV
      rw [hc, if_pos (by omega), atV_def, atV_def, if_pos (by omega), if_pos (by omega)]
    · rw [if_neg (by omega), if_neg h]
  · intro j hj
    rw [mkH_T _ _ _ _ hj]
    have hj0 := hj.1
    by_cases h : (m : Int) + j < n
    · rw [if_pos h]
      have hv := then_V hx hy hg (i := m + j) (by omega) (by omega)
      rw [atV_def, if_neg (by omega), e2, hm, show (m : Int) + j - m = j by omega] at hv
      rw [hv]
      unfold tV ptV
      rw [show ((((m : Int) + j).toNat : Nat) : Int) = m + j by omega]
    · rw [if_neg h]
      have hT1 := th1_T x y (by omega) hj y.k.toNat (by omega)
      show hT (th2 y (th1 x y y.k.toNat) y.l.toNat) j = 0
      rw [th2_T y _ (by rw [hl1]; split <;> omega) hj y.l.toNat (by rw [hl1]; split <;> omega), hl1, hT1]
      rw [if_neg (by split <;> omega), if_neg (by omega)]

end Go.Proofs.Ytfdgeomomafnbaa

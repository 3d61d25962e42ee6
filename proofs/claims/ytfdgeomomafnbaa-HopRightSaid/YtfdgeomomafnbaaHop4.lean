/- Contract of hop.Le. -/
import Derived.Test.YtfdgeomomafnbaaHop3
namespace Go.Proofs.Ytfdgeomomafnbaa
set_option linter.unusedSimpArgs false
set_option linter.unusedVariables false
open Go.RowKit

theorem hopB_iff (h : Hp) : hopB h = true ↔ (1 ≤ h.f ∧ h.f ≤ 4 ∧ 0 ≤ h.k ∧ h.k ≤ h.f ∧ 0 ≤ h.l ∧ h.l ≤ 4 ∧ 1 ≤ h.k + h.l ∧ h.k + h.l ≤ 4) ∧ withinB h.a h.b h.c h.e h.k = true ∧ withinB h.p h.q h.r h.s h.l = true := by
  simp only [hopB, Bool.and_eq_true, decide_eq_true_eq]

/-- Does place i of the one step stand at or before that of the other? -/
def okH (x y : Hp) (i : Int) : Bool := !(decide (i < x.k) && !decide (i < y.k)) && decide (atV x i ≤ atV y i)
def leTo (x y : Hp) : Nat → Bool
  | 0 => true
  | k + 1 => leTo x y k && okH x y k
def leHB (x y : Hp) : Bool := hopB x && hopB y && decide (x.f = y.f) && decide (x.k + x.l = y.k + y.l) && leTo x y (x.k + x.l).toNat
theorem leTo_false (x y : Hp) (k : Nat) (h : okH x y k = false) : ∀ n, k < n → leTo x y n = false
  | 0, hn => absurd hn (by omega)
  | n + 1, hn => by
    by_cases hk : k = n
    · subst hk; simp [leTo, h]
    · simp [leTo, leTo_false x y k h n (by omega)]
/-- hop.at at any place of a right step. -/
theorem hopAt_any (f k l a b c e p q r s i : Int) (w : World) (h0 : 0 ≤ i) (h4 : i < 4) (hk : 0 ≤ k) (hk4 : k ≤ 4) :
    Calls Try.prog 51 #[.agg #[.int .i64 f, .int .i64 k, .int .i64 l, .int .i64 a, .int .i64 b, .int .i64 c, .int .i64 e, .int .i64 p, .int .i64 q, .int .i64 r, .int .i64 s], .int .i64 i] w fun r' w' => r' = .returned (.tuple #[.int .i64 (atV ⟨f, k, l, a, b, c, e, p, q, r, s⟩ i), .bool (decide (i < k))]) ∧ Ext w w' := by
  by_cases h : i < k
  · rw [decide_eq_true h]
    exact hopAt_kept f k l a b c e p q r s i w h0 h4 h
  · rw [decide_eq_false h]
    have := hopAt_new f k l a b c e p q r s (i - k) w (by omega) (by omega) hk hk4
    rw [show k + (i - k) = i by omega] at this
    exact this
end Go.Proofs.Ytfdgeomomafnbaa

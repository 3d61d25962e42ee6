/- Contract of hop.Le, at any two steps. -/
import Derived.Test.YtfdgeomomafnbaaHop4c
namespace Go.Proofs.Ytfdgeomomafnbaa
set_option linter.unusedSimpArgs false
set_option linter.unusedVariables false
open Go.RowKit

theorem hopLe_any (f k l a b c e p q r s f' k' l' a' b' c' e' p' q' r' s' : Int) (w : World) :
    Calls Try.prog 37 #[.agg #[.int .i64 f, .int .i64 k, .int .i64 l, .int .i64 a, .int .i64 b, .int .i64 c, .int .i64 e, .int .i64 p, .int .i64 q, .int .i64 r, .int .i64 s], .agg #[.int .i64 f', .int .i64 k', .int .i64 l', .int .i64 a', .int .i64 b', .int .i64 c', .int .i64 e', .int .i64 p', .int .i64 q', .int .i64 r', .int .i64 s']] w fun o w' => o = .returned (.bool (leHB ⟨f, k, l, a, b, c, e, p, q, r, s⟩ ⟨f', k', l', a', b', c', e', p', q', r', s'⟩)) ∧ Ext w w' := by
  by_cases h : hopB ⟨f, k, l, a, b, c, e, p, q, r, s⟩ = true ∧ hopB ⟨f', k', l', a', b', c', e', p', q', r', s'⟩ = true ∧ f = f' ∧ k + l = k' + l'
  · obtain ⟨hx, hy, rfl, hg⟩ := h
    have := hopLe_in f k l a b c e p q r s k' l' a' b' c' e' p' q' r' s' w hx hy hg
    have he : leHB ⟨f, k, l, a, b, c, e, p, q, r, s⟩ ⟨f, k', l', a', b', c', e', p', q', r', s'⟩ = leTo ⟨f, k, l, a, b, c, e, p, q, r, s⟩ ⟨f, k', l', a', b', c', e', p', q', r', s'⟩ (k + l).toNat := by
      simp [leHB, hx, hy, hg]
    rw [he]
    exact this
  · have := hopLe_out f k l a b c e p q r s f' k' l' a' b' c' e' p' q' r' s' w h
    have he : leHB ⟨f, k, l, a, b, c, e, p, q, r, s⟩ ⟨f', k', l', a', b', c', e', p', q', r', s'⟩ = false := by
      rw [← Bool.not_eq_true]
      intro hh
      simp only [leHB, Bool.and_eq_true, decide_eq_true_eq] at hh
      exact h ⟨hh.1.1.1.1, hh.1.1.1.2, hh.1.1.2, hh.1.2⟩
    rw [he]
    exact this
end Go.Proofs.Ytfdgeomomafnbaa

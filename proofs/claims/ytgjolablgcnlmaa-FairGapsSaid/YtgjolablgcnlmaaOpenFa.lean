/- Arguments opened: a slice of numbers, its capacity. -/
import Derived.Test.YtgjolablgcnlmaaOpenSl
import Derived.Test.YtgjolablgcnlmaaRows
namespace Go.Proofs.Ytgjolablgcnlmaa
set_option linter.unusedSimpArgs false
set_option linter.unusedVariables false
open Go.RowKit Go.WideShapes Go.ChangeShapes Go.Deep

section
variable {H : Type} {enc : TypeId × Value → H} {w : World} {base : Nat} {spare : Nat → Bool} {held : Bool}
theorem open_cap {P : Program} {t e : TypeId} (ht : P.underlying t = some (.slice e)) {v : Value} {d : DataW H} {ps : List MemPlace} (h : DataW.Trod enc P w base spare held t v d ps) (hv : v.cells.toList = [v]) (a : Option Addr) (n c : Nat) (e : v = .slice a n c) : n ≤ c := by
  obtain ⟨fuel, h⟩ := h
  rw [hv] at h
  rcases open_slice ht h with ⟨h0, _⟩ | ⟨a', len, cap, m, k, D, Pl, h0, hb, hl, hm, hmm, _, hx⟩
  · obtain rfl : v = .slice none 0 0 := by simpa using h0
    cases e
    exact Nat.le_refl _
  · obtain rfl : v = .slice (some a') len cap := by simpa using h0
    cases e
    exact hl
theorem open_isc {v : Value} {d : DataW H} {qs : List MemPlace} (h : DataW.Trod enc Try.prog w base spare held 38 v d qs) (hv : v.cells.toList = [v]) :
    ∃ (ps : List Int) (a : Option Addr) (c : Nat), v = .slice a ps.length c ∧ Ri w .i64 (.slice a ps.length c) ps ∧ (∀ x ∈ ps, -9223372036854775808 ≤ x ∧ x ≤ 9223372036854775807) ∧ ps.length ≤ c := by
  obtain ⟨n, hr, hx, hl⟩ := open_is Try.underlying38 (by kernel_rfl) Try.underlying3 h hv
  obtain ⟨a, c, rfl, _⟩ := hr.form
  exact ⟨n, a, c, rfl, hr, fun x hx' => hx x hx', open_cap Try.underlying38 h hv _ _ _ rfl⟩
end
end Go.Proofs.Ytgjolablgcnlmaa

/- Arguments opened: a slice's length and capacity. No program in sight. -/
import Derived.Test.YtkmgdejpdhlleaaOpenSl
namespace Go.Proofs.Ytkmgdejpdhlleaa
set_option linter.unusedSimpArgs false
set_option linter.unusedVariables false
set_option maxRecDepth 100000
open Go.RowKit Go.WideShapes Go.ChangeShapes Go.Deep

section
variable {H : Type} {enc : TypeId × Value → H} {w : World} {base : Nat} {spare : Nat → Bool} {held : Bool}
theorem open_cap {P : Program} {t e : TypeId} (ht : P.underlying t = some (.slice e)) {v : Value} {d : DataW H} {ps : List MemPlace} (h : DataW.Trod enc P w base spare held t v d ps) (hv : v.cells.toList = [v]) (a : Option Addr) (n c : Nat) (e : v = .slice a n c) : n ≤ c := by
  obtain ⟨fuel, h⟩ := h
  rw [hv] at h
  rcases open_slice ht h with ⟨h0, _⟩ | ⟨a', len, cap, m, k, D, Pl, h0, hb, hl, hm, hmm, _, hx⟩
  · obtain rfl : v = .slice none 0 0 := by simpa using h0
    cases e
    exact Nat.le_refl _
  · obtain rfl : v = .slice (some a') len cap := by simpa using h0
    cases e
    exact hl
end
end Go.Proofs.Ytkmgdejpdhlleaa

/- A place where the walk stands still. -/
import Derived.Test.YtlhmifkimnmnmaaMem
namespace Go.Proofs.Ytlhmifkimnmnmaa
set_option linter.unusedSimpArgs false
set_option linter.unusedVariables false

/-- The walk knows no rule for this word. -/
def Stop (p : Prop) : Prop := p
theorem stop_here {p : Prop} (h : Stop p) : p := h
end Go.Proofs.Ytlhmifkimnmnmaa

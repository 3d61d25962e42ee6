/- A place where the walk stands still. -/
import Derived.Test.YtkmgdejpdhlleaaMem
namespace Go.Proofs.Ytkmgdejpdhlleaa
set_option linter.unusedSimpArgs false
set_option linter.unusedVariables false
set_option maxRecDepth 100000

/-- The walk knows no rule for this word. -/
def Stop (p : Prop) : Prop := p
theorem stop_here {p : Prop} (h : Stop p) : p := h
end Go.Proofs.Ytkmgdejpdhlleaa

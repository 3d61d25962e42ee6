/- The reference's lists of coordinates, and back. -/
import Derived.Test.YtkmgdejpdhlleaaRef1
import Derived.Test.YtkmgdejpdhlleaaApp
namespace Go.Proofs.Ytkmgdejpdhlleaa
set_option linter.unusedSimpArgs false
set_option linter.unusedVariables false
set_option maxRecDepth 100000
open Go.RowKit

end Go.Proofs.Ytkmgdejpdhlleaa

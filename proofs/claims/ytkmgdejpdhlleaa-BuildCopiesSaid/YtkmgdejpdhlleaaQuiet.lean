/- A contract met inside a region that draws its order. -/
import Derived.Test.YtkmgdejpdhlleaaMem
namespace Go.Proofs.Ytkmgdejpdhlleaa
set_option linter.unusedSimpArgs false
set_option linter.unusedVariables false
set_option maxRecDepth 100000
open Go.RowKit

theorem quiet_of {P : Program} {f : FuncId} {args : Array Value} {W : World} {v : Value} {R : World → Prop}
    (h : Calls P f args W fun e w' => e = .returned v ∧ Ext W w') (hR : ∀ w', Ext W w' → R w') : Calls P f args W fun e w'' => e = .returned v ∧ R w'' :=
  h.mono fun _ w' ⟨he, hx⟩ => ⟨he, hR w' hx⟩
end Go.Proofs.Ytkmgdejpdhlleaa

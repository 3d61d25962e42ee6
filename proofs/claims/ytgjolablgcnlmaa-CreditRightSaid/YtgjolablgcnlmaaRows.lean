/-
  No cell of these rows narrows 'for every input' (looked for: loops, veiled, ifaces, maps, wideKeys, modest, calm, conditions, laid).
  DERIVED. THE GIVEN ROWS OF THIS SEAT. 5 by the template 'for every input the law returns true; each argument reads behind the call as it read before'; 0 by the template 'total and deterministic' (their statements: YtgjolablgcnlmaaTotals.lean).
  GIVEN WITH THE SEED: the statements are not yours to turn. If you find one false, say at which input.
  Laid BY PROGRAM, IN A SANDBOX (cutbox-rows.mjs): the forced cells as the released guide's own fill.sh prints them over the translation f9e7fa1d39829da4… (all of the seat's roots in one cut). By AI agents, Wed Nov 11 2026. No macro, syntax, notation, axiom, sorry.
-/
import Derived.Test.YtgjolablgcnlmaaChecked
import GoSem.Claim
import GoSem.ClaimJoined
import GoSem.ClaimMapViews
import Derived.JoinedTies
import Derived.KernelRfl
namespace Go.Proofs.Ytgjolablgcnlmaa
/- THE CELL 'sum', in the pinned program and in every row, IS THE sha256 OF THE DUMP (.gsa) THAT YtgjolablgcnlmaaProg.lean LOADS. Nothing in Lean hashes anything: it is a label: what it is worth is what the hold of that sum in a sandbox is worth. -/
noncomputable def Try.pinned : Pinned := { name := "ytgjolablgcnlmaa", sum := "f9e7fa1d39829da4789fff5e7698b2000f545d35e0784eb7d7995badb620c0fb", checked := Try.checked }
namespace Rows
def none {H : Type} : Left H := { results := [], args := [] }

/-- 'backwashlaw35.CreditRight': WHATEVER THE INPUT: true; the input reads as it did. -/
def creditRightSpec : ChangeSpec := { name := "creditRight", fn := fun _ => fun
  | [d1, d2, d3] => { results := [.lit (.bool true)], args := [d1, d2, d3] }
  | _ => none }
def creditRightRow : OpenClaim := { program := "ytgjolablgcnlmaa", sum := "f9e7fa1d39829da4789fff5e7698b2000f545d35e0784eb7d7995badb620c0fb", func := "backwash/backwashlaw35.CreditRight", spec := "creditRight", apart := false }
def CreditRightSaid : Prop := creditRightRow.holds Try.pinned (OpenSpec.ofChange creditRightSpec)

/-- ITS FALSE NEIGHBOUR: 'it returns false'. Refute it at one input. -/
def creditRightWrong : ChangeSpec := { name := "creditRight", fn := fun _ => fun
  | [d1, d2, d3] => { results := [.lit (.bool false)], args := [d1, d2, d3] }
  | _ => none }
def CreditRightWrongFalsely : Prop := creditRightRow.holds Try.pinned (OpenSpec.ofChange creditRightWrong)

/-- 'backwashlaw35.CreditKeeps': WHATEVER THE INPUT: true; the input reads as it did. -/
def creditKeepsSpec : ChangeSpec := { name := "creditKeeps", fn := fun _ => fun
  | [d1, d2] => { results := [.lit (.bool true)], args := [d1, d2] }
  | _ => none }
def creditKeepsRow : OpenClaim := { program := "ytgjolablgcnlmaa", sum := "f9e7fa1d39829da4789fff5e7698b2000f545d35e0784eb7d7995badb620c0fb", func := "backwash/backwashlaw35.CreditKeeps", spec := "creditKeeps", apart := false }
def CreditKeepsSaid : Prop := creditKeepsRow.holds Try.pinned (OpenSpec.ofChange creditKeepsSpec)

/-- ITS FALSE NEIGHBOUR: 'it returns false'. Refute it at one input. -/
def creditKeepsWrong : ChangeSpec := { name := "creditKeeps", fn := fun _ => fun
  | [d1, d2] => { results := [.lit (.bool false)], args := [d1, d2] }
  | _ => none }
def CreditKeepsWrongFalsely : Prop := creditKeepsRow.holds Try.pinned (OpenSpec.ofChange creditKeepsWrong)

/-- 'backwashlaw36.FairRight': WHATEVER THE INPUT: true; the input reads as it did. -/
def fairRightSpec : ChangeSpec := { name := "fairRight", fn := fun _ => fun
  | [d1, d2, d3] => { results := [.lit (.bool true)], args := [d1, d2, d3] }
  | _ => none }
def fairRightRow : OpenClaim := { program := "ytgjolablgcnlmaa", sum := "f9e7fa1d39829da4789fff5e7698b2000f545d35e0784eb7d7995badb620c0fb", func := "backwash/backwashlaw36.FairRight", spec := "fairRight", unfollowed := true, recurses := true, apart := false }
def FairRightSaid : Prop := fairRightRow.holds Try.pinned (OpenSpec.ofChange fairRightSpec)

/-- ITS FALSE NEIGHBOUR: 'it returns false'. Refute it at one input. -/
def fairRightWrong : ChangeSpec := { name := "fairRight", fn := fun _ => fun
  | [d1, d2, d3] => { results := [.lit (.bool false)], args := [d1, d2, d3] }
  | _ => none }
def FairRightWrongFalsely : Prop := fairRightRow.holds Try.pinned (OpenSpec.ofChange fairRightWrong)

/-- 'backwashlaw36.FairMade': WHATEVER THE INPUT: true; the input reads as it did. -/
def fairMadeSpec : ChangeSpec := { name := "fairMade", fn := fun _ => fun
  | [d1, d2, d3] => { results := [.lit (.bool true)], args := [d1, d2, d3] }
  | _ => none }
def fairMadeRow : OpenClaim := { program := "ytgjolablgcnlmaa", sum := "f9e7fa1d39829da4789fff5e7698b2000f545d35e0784eb7d7995badb620c0fb", func := "backwash/backwashlaw36.FairMade", spec := "fairMade", unfollowed := true, recurses := true, apart := false }
def FairMadeSaid : Prop := fairMadeRow.holds Try.pinned (OpenSpec.ofChange fairMadeSpec)

/-- ITS FALSE NEIGHBOUR: 'it returns false'. Refute it at one input. -/
def fairMadeWrong : ChangeSpec := { name := "fairMade", fn := fun _ => fun
  | [d1, d2, d3] => { results := [.lit (.bool false)], args := [d1, d2, d3] }
  | _ => none }
def FairMadeWrongFalsely : Prop := fairMadeRow.holds Try.pinned (OpenSpec.ofChange fairMadeWrong)

/-- 'backwashlaw36.FairGaps': WHATEVER THE INPUT: true; the input reads as it did. -/
def fairGapsSpec : ChangeSpec := { name := "fairGaps", fn := fun _ => fun
  | [d1, d2, d3] => { results := [.lit (.bool true)], args := [d1, d2, d3] }
  | _ => none }
def fairGapsRow : OpenClaim := { program := "ytgjolablgcnlmaa", sum := "f9e7fa1d39829da4789fff5e7698b2000f545d35e0784eb7d7995badb620c0fb", func := "backwash/backwashlaw36.FairGaps", spec := "fairGaps", unfollowed := true, recurses := true, apart := false }
def FairGapsSaid : Prop := fairGapsRow.holds Try.pinned (OpenSpec.ofChange fairGapsSpec)

/-- ITS FALSE NEIGHBOUR: 'it returns false'. Refute it at one input. -/
def fairGapsWrong : ChangeSpec := { name := "fairGaps", fn := fun _ => fun
  | [d1, d2, d3] => { results := [.lit (.bool false)], args := [d1, d2, d3] }
  | _ => none }
def FairGapsWrongFalsely : Prop := fairGapsRow.holds Try.pinned (OpenSpec.ofChange fairGapsWrong)

/- THE SECOND FORM. 'bulk': how many values and letters a reading holds, each counted each time it is reached (what is shared counts as often as it is met; a slice's spare places count too). A statement '..UptoSaid' is the law's where the arguments, and the package variables that the reading takes, are together of bulk at most 1048576: NARROWER than '..Said'. Prove '..Said' where nothing that the law and all that it calls make is longer than what came in: it says more and counts as full. Else prove '..UptoSaid'. A law counts once. -/
mutual
def uptoBulk {H : Type} : DataW H → Nat
  | .lit (.string bytes) => bytes.length + 1
  | .lit _ => 1
  | .nil => 1
  | .ptr d => uptoBulk d + 1
  | .slice elems spare => uptoBulkAll elems + uptoBulkAll spare + 1
  | .agg parts => uptoBulkAll parts + 1
  | .iface _ d => uptoBulk d + 1
  | .map entries => uptoBulkEntries entries + 1
  | .held _ => 1
def uptoBulkAll {H : Type} : List (DataW H) → Nat
  | [] => 0
  | d :: r => uptoBulk d + uptoBulkAll r
def uptoBulkEntries {H : Type} : List (Lit × DataW H) → Nat
  | [] => 0
  | x :: r => uptoBulkEntry x + uptoBulkEntries r
def uptoBulkEntry {H : Type} : Lit × DataW H → Nat
  | (.string bytes, d) => bytes.length + uptoBulk d + 1
  | (_, d) => uptoBulk d + 1
 end
def uptoSmall : (H : Type) → List (DataW H) → Bool := fun _ ds => decide (uptoBulkAll ds ≤ 1048576)
def OpenSpec.upto (s : _root_.Go.ChangeSpec) : _root_.Go.OpenSpec := { _root_.Go.OpenSpec.ofChange s with cond := some uptoSmall }

/-- 'backwashlaw35.CreditRight', WHERE WHAT IT READS IS OF BULK AT MOST 1048576: true; the input reads as it did. -/
def creditRightUptoRow : OpenClaim := { program := "ytgjolablgcnlmaa", sum := "f9e7fa1d39829da4789fff5e7698b2000f545d35e0784eb7d7995badb620c0fb", func := "backwash/backwashlaw35.CreditRight", spec := "creditRight", apart := false, narrowed := true }
def CreditRightUptoSaid : Prop := creditRightUptoRow.holds Try.pinned (OpenSpec.upto creditRightSpec)

/-- 'backwashlaw35.CreditKeeps', WHERE WHAT IT READS IS OF BULK AT MOST 1048576: true; the input reads as it did. -/
def creditKeepsUptoRow : OpenClaim := { program := "ytgjolablgcnlmaa", sum := "f9e7fa1d39829da4789fff5e7698b2000f545d35e0784eb7d7995badb620c0fb", func := "backwash/backwashlaw35.CreditKeeps", spec := "creditKeeps", apart := false, narrowed := true }
def CreditKeepsUptoSaid : Prop := creditKeepsUptoRow.holds Try.pinned (OpenSpec.upto creditKeepsSpec)

/-- 'backwashlaw36.FairRight', WHERE WHAT IT READS IS OF BULK AT MOST 1048576: true; the input reads as it did. -/
def fairRightUptoRow : OpenClaim := { program := "ytgjolablgcnlmaa", sum := "f9e7fa1d39829da4789fff5e7698b2000f545d35e0784eb7d7995badb620c0fb", func := "backwash/backwashlaw36.FairRight", spec := "fairRight", unfollowed := true, recurses := true, apart := false, narrowed := true }
def FairRightUptoSaid : Prop := fairRightUptoRow.holds Try.pinned (OpenSpec.upto fairRightSpec)

/-- 'backwashlaw36.FairMade', WHERE WHAT IT READS IS OF BULK AT MOST 1048576: true; the input reads as it did. -/
def fairMadeUptoRow : OpenClaim := { program := "ytgjolablgcnlmaa", sum := "f9e7fa1d39829da4789fff5e7698b2000f545d35e0784eb7d7995badb620c0fb", func := "backwash/backwashlaw36.FairMade", spec := "fairMade", unfollowed := true, recurses := true, apart := false, narrowed := true }
def FairMadeUptoSaid : Prop := fairMadeUptoRow.holds Try.pinned (OpenSpec.upto fairMadeSpec)

/-- 'backwashlaw36.FairGaps', WHERE WHAT IT READS IS OF BULK AT MOST 1048576: true; the input reads as it did. -/
def fairGapsUptoRow : OpenClaim := { program := "ytgjolablgcnlmaa", sum := "f9e7fa1d39829da4789fff5e7698b2000f545d35e0784eb7d7995badb620c0fb", func := "backwash/backwashlaw36.FairGaps", spec := "fairGaps", unfollowed := true, recurses := true, apart := false, narrowed := true }
def FairGapsUptoSaid : Prop := fairGapsUptoRow.holds Try.pinned (OpenSpec.upto fairGapsSpec)

end Rows
end Go.Proofs.Ytgjolablgcnlmaa

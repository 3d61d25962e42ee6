/-
  No cell of these rows narrows 'for every input' (looked for: loops, veiled, ifaces, maps, wideKeys, modest, calm, conditions, laid).
  DERIVED. THE GIVEN ROWS OF THIS SEAT. 11 by the template 'for every input the law returns true; each argument reads behind the call as it read before'; 0 by the template 'total and deterministic' (their statements: YtfdgeomomafnbaaTotals.lean).
  GIVEN WITH THE SEED: the statements are not yours to turn. If you find one false, say at which input.
  Laid BY PROGRAM, IN A SANDBOX (cutbox-rows.mjs): the forced cells as the released guide's own fill.sh prints them over the translation 4a27f56acd3863e6… (all of the seat's roots in one cut). By AI agents, Wed Nov 11 2026. No macro, syntax, notation, axiom, sorry.
-/
import Derived.Test.YtfdgeomomafnbaaChecked
import GoSem.Claim
import GoSem.ClaimJoined
import GoSem.ClaimMapViews
import Derived.JoinedTies
import Derived.KernelRfl
namespace Go.Proofs.Ytfdgeomomafnbaa
/- THE CELL 'sum', in the pinned program and in every row, IS THE sha256 OF THE DUMP (.gsa) THAT YtfdgeomomafnbaaProg.lean LOADS. Nothing in Lean hashes anything: it is a label: what it is worth is what the hold of that sum in a sandbox is worth. -/
noncomputable def Try.pinned : Pinned := { name := "ytfdgeomomafnbaa", sum := "4a27f56acd3863e6013dbd17ef8694678886dc66cb2be40a9cc62020e8864f1f", checked := Try.checked }
namespace Rows
def none {H : Type} : Left H := { results := [], args := [] }

/-- 'backwashlaw13.RouteOne': WHATEVER THE INPUT: true; the input reads as it did. -/
def routeOneSpec : ChangeSpec := { name := "routeOne", fn := fun _ => fun
  | [d1, d2] => { results := [.lit (.bool true)], args := [d1, d2] }
  | _ => none }
def routeOneRow : OpenClaim := { program := "ytfdgeomomafnbaa", sum := "4a27f56acd3863e6013dbd17ef8694678886dc66cb2be40a9cc62020e8864f1f", func := "backwash/backwashlaw13.RouteOne", spec := "routeOne", apart := false }
def RouteOneSaid : Prop := routeOneRow.holds Try.pinned (OpenSpec.ofChange routeOneSpec)

/-- ITS FALSE NEIGHBOUR: 'it returns false'. Refute it at one input. -/
def routeOneWrong : ChangeSpec := { name := "routeOne", fn := fun _ => fun
  | [d1, d2] => { results := [.lit (.bool false)], args := [d1, d2] }
  | _ => none }
def RouteOneWrongFalsely : Prop := routeOneRow.holds Try.pinned (OpenSpec.ofChange routeOneWrong)

/-- 'backwashlaw13.RouteApart': WHATEVER THE INPUT: true; the input reads as it did. -/
def routeApartSpec : ChangeSpec := { name := "routeApart", fn := fun _ => fun
  | [d1, d2] => { results := [.lit (.bool true)], args := [d1, d2] }
  | _ => none }
def routeApartRow : OpenClaim := { program := "ytfdgeomomafnbaa", sum := "4a27f56acd3863e6013dbd17ef8694678886dc66cb2be40a9cc62020e8864f1f", func := "backwash/backwashlaw13.RouteApart", spec := "routeApart", apart := false }
def RouteApartSaid : Prop := routeApartRow.holds Try.pinned (OpenSpec.ofChange routeApartSpec)

/-- ITS FALSE NEIGHBOUR: 'it returns false'. Refute it at one input. -/
def routeApartWrong : ChangeSpec := { name := "routeApart", fn := fun _ => fun
  | [d1, d2] => { results := [.lit (.bool false)], args := [d1, d2] }
  | _ => none }
def RouteApartWrongFalsely : Prop := routeApartRow.holds Try.pinned (OpenSpec.ofChange routeApartWrong)

/-- 'backwashlaw01.TsSteps': WHATEVER THE INPUT: true; the input reads as it did. -/
def tsStepsSpec : ChangeSpec := { name := "tsSteps", fn := fun _ => fun
  | [d] => { results := [.lit (.bool true)], args := [d] }
  | _ => none }
def tsStepsRow : OpenClaim := { program := "ytfdgeomomafnbaa", sum := "4a27f56acd3863e6013dbd17ef8694678886dc66cb2be40a9cc62020e8864f1f", func := "backwash/backwashlaw01.TsSteps", spec := "tsSteps", apart := false }
def TsStepsSaid : Prop := tsStepsRow.holds Try.pinned (OpenSpec.ofChange tsStepsSpec)

/-- ITS FALSE NEIGHBOUR: 'it returns false'. Refute it at one input. -/
def tsStepsWrong : ChangeSpec := { name := "tsSteps", fn := fun _ => fun
  | [d] => { results := [.lit (.bool false)], args := [d] }
  | _ => none }
def TsStepsWrongFalsely : Prop := tsStepsRow.holds Try.pinned (OpenSpec.ofChange tsStepsWrong)

/-- 'backwashlaw01.TsScopes': WHATEVER THE INPUT: true; the input reads as it did. -/
def tsScopesSpec : ChangeSpec := { name := "tsScopes", fn := fun _ => fun
  | [d1, d2, d3] => { results := [.lit (.bool true)], args := [d1, d2, d3] }
  | _ => none }
def tsScopesRow : OpenClaim := { program := "ytfdgeomomafnbaa", sum := "4a27f56acd3863e6013dbd17ef8694678886dc66cb2be40a9cc62020e8864f1f", func := "backwash/backwashlaw01.TsScopes", spec := "tsScopes", apart := false }
def TsScopesSaid : Prop := tsScopesRow.holds Try.pinned (OpenSpec.ofChange tsScopesSpec)

/-- ITS FALSE NEIGHBOUR: 'it returns false'. Refute it at one input. -/
def tsScopesWrong : ChangeSpec := { name := "tsScopes", fn := fun _ => fun
  | [d1, d2, d3] => { results := [.lit (.bool false)], args := [d1, d2, d3] }
  | _ => none }
def TsScopesWrongFalsely : Prop := tsScopesRow.holds Try.pinned (OpenSpec.ofChange tsScopesWrong)

/-- 'backwashlaw01.TsRight': WHATEVER THE INPUT: true; the input reads as it did. -/
def tsRightSpec : ChangeSpec := { name := "tsRight", fn := fun _ => fun
  | [d1, d2] => { results := [.lit (.bool true)], args := [d1, d2] }
  | _ => none }
def tsRightRow : OpenClaim := { program := "ytfdgeomomafnbaa", sum := "4a27f56acd3863e6013dbd17ef8694678886dc66cb2be40a9cc62020e8864f1f", func := "backwash/backwashlaw01.TsRight", spec := "tsRight", apart := false }
def TsRightSaid : Prop := tsRightRow.holds Try.pinned (OpenSpec.ofChange tsRightSpec)

/-- ITS FALSE NEIGHBOUR: 'it returns false'. Refute it at one input. -/
def tsRightWrong : ChangeSpec := { name := "tsRight", fn := fun _ => fun
  | [d1, d2] => { results := [.lit (.bool false)], args := [d1, d2] }
  | _ => none }
def TsRightWrongFalsely : Prop := tsRightRow.holds Try.pinned (OpenSpec.ofChange tsRightWrong)

/-- 'backwashlaw01.TsJoins': WHATEVER THE INPUT: true; the input reads as it did. -/
def tsJoinsSpec : ChangeSpec := { name := "tsJoins", fn := fun _ => fun
  | [d1, d2, d3] => { results := [.lit (.bool true)], args := [d1, d2, d3] }
  | _ => none }
def tsJoinsRow : OpenClaim := { program := "ytfdgeomomafnbaa", sum := "4a27f56acd3863e6013dbd17ef8694678886dc66cb2be40a9cc62020e8864f1f", func := "backwash/backwashlaw01.TsJoins", spec := "tsJoins", apart := false }
def TsJoinsSaid : Prop := tsJoinsRow.holds Try.pinned (OpenSpec.ofChange tsJoinsSpec)

/-- ITS FALSE NEIGHBOUR: 'it returns false'. Refute it at one input. -/
def tsJoinsWrong : ChangeSpec := { name := "tsJoins", fn := fun _ => fun
  | [d1, d2, d3] => { results := [.lit (.bool false)], args := [d1, d2, d3] }
  | _ => none }
def TsJoinsWrongFalsely : Prop := tsJoinsRow.holds Try.pinned (OpenSpec.ofChange tsJoinsWrong)

/-- 'backwashlaw02.HopThen': WHATEVER THE INPUT: true; the input reads as it did. -/
def hopThenSpec : ChangeSpec := { name := "hopThen", fn := fun _ => fun
  | [d1, d2, d3, d4] => { results := [.lit (.bool true)], args := [d1, d2, d3, d4] }
  | _ => none }
def hopThenRow : OpenClaim := { program := "ytfdgeomomafnbaa", sum := "4a27f56acd3863e6013dbd17ef8694678886dc66cb2be40a9cc62020e8864f1f", func := "backwash/backwashlaw02.HopThen", spec := "hopThen", apart := false }
def HopThenSaid : Prop := hopThenRow.holds Try.pinned (OpenSpec.ofChange hopThenSpec)

/-- ITS FALSE NEIGHBOUR: 'it returns false'. Refute it at one input. -/
def hopThenWrong : ChangeSpec := { name := "hopThen", fn := fun _ => fun
  | [d1, d2, d3, d4] => { results := [.lit (.bool false)], args := [d1, d2, d3, d4] }
  | _ => none }
def HopThenWrongFalsely : Prop := hopThenRow.holds Try.pinned (OpenSpec.ofChange hopThenWrong)

/-- 'backwashlaw02.HopRight': WHATEVER THE INPUT: true; the input reads as it did. -/
def hopRightSpec : ChangeSpec := { name := "hopRight", fn := fun _ => fun
  | [d1, d2, d3] => { results := [.lit (.bool true)], args := [d1, d2, d3] }
  | _ => none }
def hopRightRow : OpenClaim := { program := "ytfdgeomomafnbaa", sum := "4a27f56acd3863e6013dbd17ef8694678886dc66cb2be40a9cc62020e8864f1f", func := "backwash/backwashlaw02.HopRight", spec := "hopRight", apart := false }
def HopRightSaid : Prop := hopRightRow.holds Try.pinned (OpenSpec.ofChange hopRightSpec)

/-- ITS FALSE NEIGHBOUR: 'it returns false'. Refute it at one input. -/
def hopRightWrong : ChangeSpec := { name := "hopRight", fn := fun _ => fun
  | [d1, d2, d3] => { results := [.lit (.bool false)], args := [d1, d2, d3] }
  | _ => none }
def HopRightWrongFalsely : Prop := hopRightRow.holds Try.pinned (OpenSpec.ofChange hopRightWrong)

/-- 'backwashlaw02.HopSteps': WHATEVER THE INPUT: true; the input reads as it did. -/
def hopStepsSpec : ChangeSpec := { name := "hopSteps", fn := fun _ => fun
  | [d1, d2] => { results := [.lit (.bool true)], args := [d1, d2] }
  | _ => none }
def hopStepsRow : OpenClaim := { program := "ytfdgeomomafnbaa", sum := "4a27f56acd3863e6013dbd17ef8694678886dc66cb2be40a9cc62020e8864f1f", func := "backwash/backwashlaw02.HopSteps", spec := "hopSteps", apart := false }
def HopStepsSaid : Prop := hopStepsRow.holds Try.pinned (OpenSpec.ofChange hopStepsSpec)

/-- ITS FALSE NEIGHBOUR: 'it returns false'. Refute it at one input. -/
def hopStepsWrong : ChangeSpec := { name := "hopSteps", fn := fun _ => fun
  | [d1, d2] => { results := [.lit (.bool false)], args := [d1, d2] }
  | _ => none }
def HopStepsWrongFalsely : Prop := hopStepsRow.holds Try.pinned (OpenSpec.ofChange hopStepsWrong)

/-- 'backwashlaw02.HopOrder': WHATEVER THE INPUT: true; the input reads as it did. -/
def hopOrderSpec : ChangeSpec := { name := "hopOrder", fn := fun _ => fun
  | [d1, d2, d3] => { results := [.lit (.bool true)], args := [d1, d2, d3] }
  | _ => none }
def hopOrderRow : OpenClaim := { program := "ytfdgeomomafnbaa", sum := "4a27f56acd3863e6013dbd17ef8694678886dc66cb2be40a9cc62020e8864f1f", func := "backwash/backwashlaw02.HopOrder", spec := "hopOrder", apart := false }
def HopOrderSaid : Prop := hopOrderRow.holds Try.pinned (OpenSpec.ofChange hopOrderSpec)

/-- ITS FALSE NEIGHBOUR: 'it returns false'. Refute it at one input. -/
def hopOrderWrong : ChangeSpec := { name := "hopOrder", fn := fun _ => fun
  | [d1, d2, d3] => { results := [.lit (.bool false)], args := [d1, d2, d3] }
  | _ => none }
def HopOrderWrongFalsely : Prop := hopOrderRow.holds Try.pinned (OpenSpec.ofChange hopOrderWrong)

/-- 'backwashlaw02.HopKeeps': WHATEVER THE INPUT: true; the input reads as it did. -/
def hopKeepsSpec : ChangeSpec := { name := "hopKeeps", fn := fun _ => fun
  | [d1, d2, d3, d4, d5] => { results := [.lit (.bool true)], args := [d1, d2, d3, d4, d5] }
  | _ => none }
def hopKeepsRow : OpenClaim := { program := "ytfdgeomomafnbaa", sum := "4a27f56acd3863e6013dbd17ef8694678886dc66cb2be40a9cc62020e8864f1f", func := "backwash/backwashlaw02.HopKeeps", spec := "hopKeeps", apart := false }
def HopKeepsSaid : Prop := hopKeepsRow.holds Try.pinned (OpenSpec.ofChange hopKeepsSpec)

/-- ITS FALSE NEIGHBOUR: 'it returns false'. Refute it at one input. -/
def hopKeepsWrong : ChangeSpec := { name := "hopKeeps", fn := fun _ => fun
  | [d1, d2, d3, d4, d5] => { results := [.lit (.bool false)], args := [d1, d2, d3, d4, d5] }
  | _ => none }
def HopKeepsWrongFalsely : Prop := hopKeepsRow.holds Try.pinned (OpenSpec.ofChange hopKeepsWrong)

/- THE SECOND FORM. 'bulk': how many values and letters a reading holds, each counted each time it is reached (what is shared counts as often as it is met; a slice's spare places count too). A statement '..UptoSaid' is the law's where the arguments, and the package variables that the reading takes, are together of bulk at most 1048576: NARROWER than '..Said'. Prove '..Said' where nothing that the law and all that it calls make is longer than what came in: it says more and counts as full. Else prove '..UptoSaid'. A law counts once. -/
mutual
def uptoBulk {H : Type} : DataW H → Nat
  | .lit (.string bytes) => bytes.length + 1
  | .lit _ => 1
  | .nil => 1
  | .ptr d => uptoBulk d + 1
  | .slice elems spare => uptoBulkAll elems + uptoBulkAll spare + 1
  | .agg parts => uptoBulkAll parts + 1
  | .iface _ d => uptoBulk d + 1
  | .map entries => uptoBulkEntries entries + 1
  | .held _ => 1
def uptoBulkAll {H : Type} : List (DataW H) → Nat
  | [] => 0
  | d :: r => uptoBulk d + uptoBulkAll r
def uptoBulkEntries {H : Type} : List (Lit × DataW H) → Nat
  | [] => 0
  | x :: r => uptoBulkEntry x + uptoBulkEntries r
def uptoBulkEntry {H : Type} : Lit × DataW H → Nat
  | (.string bytes, d) => bytes.length + uptoBulk d + 1
  | (_, d) => uptoBulk d + 1
 end
def uptoSmall : (H : Type) → List (DataW H) → Bool := fun _ ds => decide (uptoBulkAll ds ≤ 1048576)
def OpenSpec.upto (s : _root_.Go.ChangeSpec) : _root_.Go.OpenSpec := { _root_.Go.OpenSpec.ofChange s with cond := some uptoSmall }

/-- 'backwashlaw13.RouteOne', WHERE WHAT IT READS IS OF BULK AT MOST 1048576: true; the input reads as it did. -/
def routeOneUptoRow : OpenClaim := { program := "ytfdgeomomafnbaa", sum := "4a27f56acd3863e6013dbd17ef8694678886dc66cb2be40a9cc62020e8864f1f", func := "backwash/backwashlaw13.RouteOne", spec := "routeOne", apart := false, narrowed := true }
def RouteOneUptoSaid : Prop := routeOneUptoRow.holds Try.pinned (OpenSpec.upto routeOneSpec)

/-- 'backwashlaw13.RouteApart', WHERE WHAT IT READS IS OF BULK AT MOST 1048576: true; the input reads as it did. -/
def routeApartUptoRow : OpenClaim := { program := "ytfdgeomomafnbaa", sum := "4a27f56acd3863e6013dbd17ef8694678886dc66cb2be40a9cc62020e8864f1f", func := "backwash/backwashlaw13.RouteApart", spec := "routeApart", apart := false, narrowed := true }
def RouteApartUptoSaid : Prop := routeApartUptoRow.holds Try.pinned (OpenSpec.upto routeApartSpec)

/-- 'backwashlaw01.TsSteps', WHERE WHAT IT READS IS OF BULK AT MOST 1048576: true; the input reads as it did. -/
def tsStepsUptoRow : OpenClaim := { program := "ytfdgeomomafnbaa", sum := "4a27f56acd3863e6013dbd17ef8694678886dc66cb2be40a9cc62020e8864f1f", func := "backwash/backwashlaw01.TsSteps", spec := "tsSteps", apart := false, narrowed := true }
def TsStepsUptoSaid : Prop := tsStepsUptoRow.holds Try.pinned (OpenSpec.upto tsStepsSpec)

/-- 'backwashlaw01.TsScopes', WHERE WHAT IT READS IS OF BULK AT MOST 1048576: true; the input reads as it did. -/
def tsScopesUptoRow : OpenClaim := { program := "ytfdgeomomafnbaa", sum := "4a27f56acd3863e6013dbd17ef8694678886dc66cb2be40a9cc62020e8864f1f", func := "backwash/backwashlaw01.TsScopes", spec := "tsScopes", apart := false, narrowed := true }
def TsScopesUptoSaid : Prop := tsScopesUptoRow.holds Try.pinned (OpenSpec.upto tsScopesSpec)

/-- 'backwashlaw01.TsRight', WHERE WHAT IT READS IS OF BULK AT MOST 1048576: true; the input reads as it did. -/
def tsRightUptoRow : OpenClaim := { program := "ytfdgeomomafnbaa", sum := "4a27f56acd3863e6013dbd17ef8694678886dc66cb2be40a9cc62020e8864f1f", func := "backwash/backwashlaw01.TsRight", spec := "tsRight", apart := false, narrowed := true }
def TsRightUptoSaid : Prop := tsRightUptoRow.holds Try.pinned (OpenSpec.upto tsRightSpec)

/-- 'backwashlaw01.TsJoins', WHERE WHAT IT READS IS OF BULK AT MOST 1048576: true; the input reads as it did. -/
def tsJoinsUptoRow : OpenClaim := { program := "ytfdgeomomafnbaa", sum := "4a27f56acd3863e6013dbd17ef8694678886dc66cb2be40a9cc62020e8864f1f", func := "backwash/backwashlaw01.TsJoins", spec := "tsJoins", apart := false, narrowed := true }
def TsJoinsUptoSaid : Prop := tsJoinsUptoRow.holds Try.pinned (OpenSpec.upto tsJoinsSpec)

/-- 'backwashlaw02.HopThen', WHERE WHAT IT READS IS OF BULK AT MOST 1048576: true; the input reads as it did. -/
def hopThenUptoRow : OpenClaim := { program := "ytfdgeomomafnbaa", sum := "4a27f56acd3863e6013dbd17ef8694678886dc66cb2be40a9cc62020e8864f1f", func := "backwash/backwashlaw02.HopThen", spec := "hopThen", apart := false, narrowed := true }
def HopThenUptoSaid : Prop := hopThenUptoRow.holds Try.pinned (OpenSpec.upto hopThenSpec)

/-- 'backwashlaw02.HopRight', WHERE WHAT IT READS IS OF BULK AT MOST 1048576: true; the input reads as it did. -/
def hopRightUptoRow : OpenClaim := { program := "ytfdgeomomafnbaa", sum := "4a27f56acd3863e6013dbd17ef8694678886dc66cb2be40a9cc62020e8864f1f", func := "backwash/backwashlaw02.HopRight", spec := "hopRight", apart := false, narrowed := true }
def HopRightUptoSaid : Prop := hopRightUptoRow.holds Try.pinned (OpenSpec.upto hopRightSpec)

/-- 'backwashlaw02.HopSteps', WHERE WHAT IT READS IS OF BULK AT MOST 1048576: true; the input reads as it did. -/
def hopStepsUptoRow : OpenClaim := { program := "ytfdgeomomafnbaa", sum := "4a27f56acd3863e6013dbd17ef8694678886dc66cb2be40a9cc62020e8864f1f", func := "backwash/backwashlaw02.HopSteps", spec := "hopSteps", apart := false, narrowed := true }
def HopStepsUptoSaid : Prop := hopStepsUptoRow.holds Try.pinned (OpenSpec.upto hopStepsSpec)

/-- 'backwashlaw02.HopOrder', WHERE WHAT IT READS IS OF BULK AT MOST 1048576: true; the input reads as it did. -/
def hopOrderUptoRow : OpenClaim := { program := "ytfdgeomomafnbaa", sum := "4a27f56acd3863e6013dbd17ef8694678886dc66cb2be40a9cc62020e8864f1f", func := "backwash/backwashlaw02.HopOrder", spec := "hopOrder", apart := false, narrowed := true }
def HopOrderUptoSaid : Prop := hopOrderUptoRow.holds Try.pinned (OpenSpec.upto hopOrderSpec)

/-- 'backwashlaw02.HopKeeps', WHERE WHAT IT READS IS OF BULK AT MOST 1048576: true; the input reads as it did. -/
def hopKeepsUptoRow : OpenClaim := { program := "ytfdgeomomafnbaa", sum := "4a27f56acd3863e6013dbd17ef8694678886dc66cb2be40a9cc62020e8864f1f", func := "backwash/backwashlaw02.HopKeeps", spec := "hopKeeps", apart := false, narrowed := true }
def HopKeepsUptoSaid : Prop := hopKeepsUptoRow.holds Try.pinned (OpenSpec.upto hopKeepsSpec)

end Rows
end Go.Proofs.Ytfdgeomomafnbaa

/-
  No cell of these rows narrows 'for every input' (looked for: loops, veiled, ifaces, maps, wideKeys, modest, calm, conditions, laid).
  DERIVED. THE GIVEN ROWS OF THIS SEAT. 9 by the template 'for every input the law returns true; each argument reads behind the call as it read before'; 0 by the template 'total and deterministic' (their statements: YtkmgdejpdhlleaaTotals.lean).
  GIVEN WITH THE SEED: the statements are not yours to turn. If you find one false, say at which input.
  Laid BY PROGRAM, IN A SANDBOX (cutbox-rows.mjs): the forced cells as the released guide's own fill.sh prints them over the translation 1770dab3e024bf4b… (all of the seat's roots in one cut). By AI agents, Wed Nov 11 2026. No macro, syntax, notation, axiom, sorry.
-/
import Derived.Test.YtkmgdejpdhlleaaChecked
import GoSem.Claim
import GoSem.ClaimJoined
import GoSem.ClaimMapViews
import Derived.JoinedTies
import Derived.KernelRfl
namespace Go.Proofs.Ytkmgdejpdhlleaa
/- THE CELL 'sum', in the pinned program and in every row, IS THE sha256 OF THE DUMP (.gsa) THAT YtkmgdejpdhlleaaProg.lean LOADS. Nothing in Lean hashes anything: it is a label: what it is worth is what the hold of that sum in a sandbox is worth. -/
noncomputable def Try.pinned : Pinned := { name := "ytkmgdejpdhlleaa", sum := "1770dab3e024bf4bf5182fc10199c7e76b97d8a0017e88c490fc99b39c546827", checked := Try.checked }
namespace Rows
def none {H : Type} : Left H := { results := [], args := [] }

/-- 'backwashlaw34.VstateOrder': WHATEVER THE INPUT: true; the input reads as it did. -/
def vstateOrderSpec : ChangeSpec := { name := "vstateOrder", fn := fun _ => fun
  | [d1, d2, d3] => { results := [.lit (.bool true)], args := [d1, d2, d3] }
  | _ => none }
def vstateOrderRow : OpenClaim := { program := "ytkmgdejpdhlleaa", sum := "1770dab3e024bf4bf5182fc10199c7e76b97d8a0017e88c490fc99b39c546827", func := "backwash/backwashlaw34.VstateOrder", spec := "vstateOrder", inPlace := ["slices.overlaps[backwash/api.Rec]", "slices.overlaps[backwash/api.Entry]"], unfollowed := true, recurses := true, apart := false }
def VstateOrderSaid : Prop := vstateOrderRow.holds Try.pinned (OpenSpec.ofChange vstateOrderSpec)

/-- ITS FALSE NEIGHBOUR: 'it returns false'. Refute it at one input. -/
def vstateOrderWrong : ChangeSpec := { name := "vstateOrder", fn := fun _ => fun
  | [d1, d2, d3] => { results := [.lit (.bool false)], args := [d1, d2, d3] }
  | _ => none }
def VstateOrderWrongFalsely : Prop := vstateOrderRow.holds Try.pinned (OpenSpec.ofChange vstateOrderWrong)

/-- 'backwashlaw34.VstateCuts': WHATEVER THE INPUT: true; the input reads as it did. -/
def vstateCutsSpec : ChangeSpec := { name := "vstateCuts", fn := fun _ => fun
  | [d1, d2, d3, d4, d5] => { results := [.lit (.bool true)], args := [d1, d2, d3, d4, d5] }
  | _ => none }
def vstateCutsRow : OpenClaim := { program := "ytkmgdejpdhlleaa", sum := "1770dab3e024bf4bf5182fc10199c7e76b97d8a0017e88c490fc99b39c546827", func := "backwash/backwashlaw34.VstateCuts", spec := "vstateCuts", inPlace := ["slices.overlaps[backwash/api.Rec]", "slices.overlaps[backwash/api.Entry]", "slices.overlaps[backwash/api.Version]"], unfollowed := true, recurses := true, apart := false }
def VstateCutsSaid : Prop := vstateCutsRow.holds Try.pinned (OpenSpec.ofChange vstateCutsSpec)

/-- ITS FALSE NEIGHBOUR: 'it returns false'. Refute it at one input. -/
def vstateCutsWrong : ChangeSpec := { name := "vstateCuts", fn := fun _ => fun
  | [d1, d2, d3, d4, d5] => { results := [.lit (.bool false)], args := [d1, d2, d3, d4, d5] }
  | _ => none }
def VstateCutsWrongFalsely : Prop := vstateCutsRow.holds Try.pinned (OpenSpec.ofChange vstateCutsWrong)

/-- 'backwashlaw30.BuildRuns': WHATEVER THE INPUT: true; the input reads as it did. -/
def buildRunsSpec : ChangeSpec := { name := "buildRuns", fn := fun _ => fun
  | [d] => { results := [.lit (.bool true)], args := [d] }
  | _ => none }
def buildRunsRow : OpenClaim := { program := "ytkmgdejpdhlleaa", sum := "1770dab3e024bf4bf5182fc10199c7e76b97d8a0017e88c490fc99b39c546827", func := "backwash/backwashlaw30.BuildRuns", spec := "buildRuns", unfollowed := true, recurses := true, apart := false }
def BuildRunsSaid : Prop := buildRunsRow.holds Try.pinned (OpenSpec.ofChange buildRunsSpec)

/-- ITS FALSE NEIGHBOUR: 'it returns false'. Refute it at one input. -/
def buildRunsWrong : ChangeSpec := { name := "buildRuns", fn := fun _ => fun
  | [d] => { results := [.lit (.bool false)], args := [d] }
  | _ => none }
def BuildRunsWrongFalsely : Prop := buildRunsRow.holds Try.pinned (OpenSpec.ofChange buildRunsWrong)

/-- 'backwashlaw30.BuildCopies': WHATEVER THE INPUT: true; the input reads as it did. -/
def buildCopiesSpec : ChangeSpec := { name := "buildCopies", fn := fun _ => fun
  | [d1, d2] => { results := [.lit (.bool true)], args := [d1, d2] }
  | _ => none }
def buildCopiesRow : OpenClaim := { program := "ytkmgdejpdhlleaa", sum := "1770dab3e024bf4bf5182fc10199c7e76b97d8a0017e88c490fc99b39c546827", func := "backwash/backwashlaw30.BuildCopies", spec := "buildCopies", unfollowed := true, recurses := true, apart := false }
def BuildCopiesSaid : Prop := buildCopiesRow.holds Try.pinned (OpenSpec.ofChange buildCopiesSpec)

/-- ITS FALSE NEIGHBOUR: 'it returns false'. Refute it at one input. -/
def buildCopiesWrong : ChangeSpec := { name := "buildCopies", fn := fun _ => fun
  | [d1, d2] => { results := [.lit (.bool false)], args := [d1, d2] }
  | _ => none }
def BuildCopiesWrongFalsely : Prop := buildCopiesRow.holds Try.pinned (OpenSpec.ofChange buildCopiesWrong)

/-- 'backwashlaw10.PathsRight': WHATEVER THE INPUT: true; the input reads as it did. -/
def pathsRightSpec : ChangeSpec := { name := "pathsRight", fn := fun _ => fun
  | [d] => { results := [.lit (.bool true)], args := [d] }
  | _ => none }
def pathsRightRow : OpenClaim := { program := "ytkmgdejpdhlleaa", sum := "1770dab3e024bf4bf5182fc10199c7e76b97d8a0017e88c490fc99b39c546827", func := "backwash/backwashlaw10.PathsRight", spec := "pathsRight", unfollowed := true, recurses := true, apart := false }
def PathsRightSaid : Prop := pathsRightRow.holds Try.pinned (OpenSpec.ofChange pathsRightSpec)

/-- ITS FALSE NEIGHBOUR: 'it returns false'. Refute it at one input. -/
def pathsRightWrong : ChangeSpec := { name := "pathsRight", fn := fun _ => fun
  | [d] => { results := [.lit (.bool false)], args := [d] }
  | _ => none }
def PathsRightWrongFalsely : Prop := pathsRightRow.holds Try.pinned (OpenSpec.ofChange pathsRightWrong)

/-- 'backwashlaw10.PathsOn': WHATEVER THE INPUT: true; the input reads as it did. -/
def pathsOnSpec : ChangeSpec := { name := "pathsOn", fn := fun _ => fun
  | [d1, d2, d3, d4, d5, d6] => { results := [.lit (.bool true)], args := [d1, d2, d3, d4, d5, d6] }
  | _ => none }
def pathsOnRow : OpenClaim := { program := "ytkmgdejpdhlleaa", sum := "1770dab3e024bf4bf5182fc10199c7e76b97d8a0017e88c490fc99b39c546827", func := "backwash/backwashlaw10.PathsOn", spec := "pathsOn", unfollowed := true, recurses := true, apart := false }
def PathsOnSaid : Prop := pathsOnRow.holds Try.pinned (OpenSpec.ofChange pathsOnSpec)

/-- ITS FALSE NEIGHBOUR: 'it returns false'. Refute it at one input. -/
def pathsOnWrong : ChangeSpec := { name := "pathsOn", fn := fun _ => fun
  | [d1, d2, d3, d4, d5, d6] => { results := [.lit (.bool false)], args := [d1, d2, d3, d4, d5, d6] }
  | _ => none }
def PathsOnWrongFalsely : Prop := pathsOnRow.holds Try.pinned (OpenSpec.ofChange pathsOnWrong)

/-- 'backwashlaw10.PathsLeast': WHATEVER THE INPUT: true; the input reads as it did. -/
def pathsLeastSpec : ChangeSpec := { name := "pathsLeast", fn := fun _ => fun
  | [d] => { results := [.lit (.bool true)], args := [d] }
  | _ => none }
def pathsLeastRow : OpenClaim := { program := "ytkmgdejpdhlleaa", sum := "1770dab3e024bf4bf5182fc10199c7e76b97d8a0017e88c490fc99b39c546827", func := "backwash/backwashlaw10.PathsLeast", spec := "pathsLeast", unfollowed := true, recurses := true, apart := false }
def PathsLeastSaid : Prop := pathsLeastRow.holds Try.pinned (OpenSpec.ofChange pathsLeastSpec)

/-- ITS FALSE NEIGHBOUR: 'it returns false'. Refute it at one input. -/
def pathsLeastWrong : ChangeSpec := { name := "pathsLeast", fn := fun _ => fun
  | [d] => { results := [.lit (.bool false)], args := [d] }
  | _ => none }
def PathsLeastWrongFalsely : Prop := pathsLeastRow.holds Try.pinned (OpenSpec.ofChange pathsLeastWrong)

/-- 'backwashlaw10.PathsReach': WHATEVER THE INPUT: true; the input reads as it did. -/
def pathsReachSpec : ChangeSpec := { name := "pathsReach", fn := fun _ => fun
  | [d1, d2, d3, d4, d5, d6] => { results := [.lit (.bool true)], args := [d1, d2, d3, d4, d5, d6] }
  | _ => none }
def pathsReachRow : OpenClaim := { program := "ytkmgdejpdhlleaa", sum := "1770dab3e024bf4bf5182fc10199c7e76b97d8a0017e88c490fc99b39c546827", func := "backwash/backwashlaw10.PathsReach", spec := "pathsReach", inPlace := ["slices.overlaps[backwash/api.Time]"], unfollowed := true, recurses := true, apart := false }
def PathsReachSaid : Prop := pathsReachRow.holds Try.pinned (OpenSpec.ofChange pathsReachSpec)

/-- ITS FALSE NEIGHBOUR: 'it returns false'. Refute it at one input. -/
def pathsReachWrong : ChangeSpec := { name := "pathsReach", fn := fun _ => fun
  | [d1, d2, d3, d4, d5, d6] => { results := [.lit (.bool false)], args := [d1, d2, d3, d4, d5, d6] }
  | _ => none }
def PathsReachWrongFalsely : Prop := pathsReachRow.holds Try.pinned (OpenSpec.ofChange pathsReachWrong)

/-- 'backwashlaw37.LineRight': WHATEVER THE INPUT: true; the input reads as it did. -/
def lineRightSpec : ChangeSpec := { name := "lineRight", fn := fun _ => fun
  | [d1, d2, d3, d4, d5, d6] => { results := [.lit (.bool true)], args := [d1, d2, d3, d4, d5, d6] }
  | _ => none }
def lineRightRow : OpenClaim := { program := "ytkmgdejpdhlleaa", sum := "1770dab3e024bf4bf5182fc10199c7e76b97d8a0017e88c490fc99b39c546827", func := "backwash/backwashlaw37.LineRight", spec := "lineRight", unfollowed := true, recurses := true, apart := false }
def LineRightSaid : Prop := lineRightRow.holds Try.pinned (OpenSpec.ofChange lineRightSpec)

/-- ITS FALSE NEIGHBOUR: 'it returns false'. Refute it at one input. -/
def lineRightWrong : ChangeSpec := { name := "lineRight", fn := fun _ => fun
  | [d1, d2, d3, d4, d5, d6] => { results := [.lit (.bool false)], args := [d1, d2, d3, d4, d5, d6] }
  | _ => none }
def LineRightWrongFalsely : Prop := lineRightRow.holds Try.pinned (OpenSpec.ofChange lineRightWrong)

/- THE SECOND FORM. 'bulk': how many values and letters a reading holds, each counted each time it is reached (what is shared counts as often as it is met; a slice's spare places count too). A statement '..UptoSaid' is the law's where the arguments, and the package variables that the reading takes, are together of bulk at most 1048576: NARROWER than '..Said'. Prove '..Said' where nothing that the law and all that it calls make is longer than what came in: it says more and counts as full. Else prove '..UptoSaid'. A law counts once. -/
mutual
def uptoBulk {H : Type} : DataW H → Nat
  | .lit (.string bytes) => bytes.length + 1
  | .lit _ => 1
  | .nil => 1
  | .ptr d => uptoBulk d + 1
  | .slice elems spare => uptoBulkAll elems + uptoBulkAll spare + 1
  | .agg parts => uptoBulkAll parts + 1
  | .iface _ d => uptoBulk d + 1
  | .map entries => uptoBulkEntries entries + 1
  | .held _ => 1
def uptoBulkAll {H : Type} : List (DataW H) → Nat
  | [] => 0
  | d :: r => uptoBulk d + uptoBulkAll r
def uptoBulkEntries {H : Type} : List (Lit × DataW H) → Nat
  | [] => 0
  | x :: r => uptoBulkEntry x + uptoBulkEntries r
def uptoBulkEntry {H : Type} : Lit × DataW H → Nat
  | (.string bytes, d) => bytes.length + uptoBulk d + 1
  | (_, d) => uptoBulk d + 1
 end
def uptoSmall : (H : Type) → List (DataW H) → Bool := fun _ ds => decide (uptoBulkAll ds ≤ 1048576)
def OpenSpec.upto (s : _root_.Go.ChangeSpec) : _root_.Go.OpenSpec := { _root_.Go.OpenSpec.ofChange s with cond := some uptoSmall }

/-- 'backwashlaw34.VstateOrder', WHERE WHAT IT READS IS OF BULK AT MOST 1048576: true; the input reads as it did. -/
def vstateOrderUptoRow : OpenClaim := { program := "ytkmgdejpdhlleaa", sum := "1770dab3e024bf4bf5182fc10199c7e76b97d8a0017e88c490fc99b39c546827", func := "backwash/backwashlaw34.VstateOrder", spec := "vstateOrder", inPlace := ["slices.overlaps[backwash/api.Rec]", "slices.overlaps[backwash/api.Entry]"], unfollowed := true, recurses := true, apart := false, narrowed := true }
def VstateOrderUptoSaid : Prop := vstateOrderUptoRow.holds Try.pinned (OpenSpec.upto vstateOrderSpec)

/-- 'backwashlaw34.VstateCuts', WHERE WHAT IT READS IS OF BULK AT MOST 1048576: true; the input reads as it did. -/
def vstateCutsUptoRow : OpenClaim := { program := "ytkmgdejpdhlleaa", sum := "1770dab3e024bf4bf5182fc10199c7e76b97d8a0017e88c490fc99b39c546827", func := "backwash/backwashlaw34.VstateCuts", spec := "vstateCuts", inPlace := ["slices.overlaps[backwash/api.Rec]", "slices.overlaps[backwash/api.Entry]", "slices.overlaps[backwash/api.Version]"], unfollowed := true, recurses := true, apart := false, narrowed := true }
def VstateCutsUptoSaid : Prop := vstateCutsUptoRow.holds Try.pinned (OpenSpec.upto vstateCutsSpec)

/-- 'backwashlaw30.BuildRuns', WHERE WHAT IT READS IS OF BULK AT MOST 1048576: true; the input reads as it did. -/
def buildRunsUptoRow : OpenClaim := { program := "ytkmgdejpdhlleaa", sum := "1770dab3e024bf4bf5182fc10199c7e76b97d8a0017e88c490fc99b39c546827", func := "backwash/backwashlaw30.BuildRuns", spec := "buildRuns", unfollowed := true, recurses := true, apart := false, narrowed := true }
def BuildRunsUptoSaid : Prop := buildRunsUptoRow.holds Try.pinned (OpenSpec.upto buildRunsSpec)

/-- 'backwashlaw30.BuildCopies', WHERE WHAT IT READS IS OF BULK AT MOST 1048576: true; the input reads as it did. -/
def buildCopiesUptoRow : OpenClaim := { program := "ytkmgdejpdhlleaa", sum := "1770dab3e024bf4bf5182fc10199c7e76b97d8a0017e88c490fc99b39c546827", func := "backwash/backwashlaw30.BuildCopies", spec := "buildCopies", unfollowed := true, recurses := true, apart := false, narrowed := true }
def BuildCopiesUptoSaid : Prop := buildCopiesUptoRow.holds Try.pinned (OpenSpec.upto buildCopiesSpec)

/-- 'backwashlaw10.PathsRight', WHERE WHAT IT READS IS OF BULK AT MOST 1048576: true; the input reads as it did. -/
def pathsRightUptoRow : OpenClaim := { program := "ytkmgdejpdhlleaa", sum := "1770dab3e024bf4bf5182fc10199c7e76b97d8a0017e88c490fc99b39c546827", func := "backwash/backwashlaw10.PathsRight", spec := "pathsRight", unfollowed := true, recurses := true, apart := false, narrowed := true }
def PathsRightUptoSaid : Prop := pathsRightUptoRow.holds Try.pinned (OpenSpec.upto pathsRightSpec)

/-- 'backwashlaw10.PathsOn', WHERE WHAT IT READS IS OF BULK AT MOST 1048576: true; the input reads as it did. -/
def pathsOnUptoRow : OpenClaim := { program := "ytkmgdejpdhlleaa", sum := "1770dab3e024bf4bf5182fc10199c7e76b97d8a0017e88c490fc99b39c546827", func := "backwash/backwashlaw10.PathsOn", spec := "pathsOn", unfollowed := true, recurses := true, apart := false, narrowed := true }
def PathsOnUptoSaid : Prop := pathsOnUptoRow.holds Try.pinned (OpenSpec.upto pathsOnSpec)

/-- 'backwashlaw10.PathsLeast', WHERE WHAT IT READS IS OF BULK AT MOST 1048576: true; the input reads as it did. -/
def pathsLeastUptoRow : OpenClaim := { program := "ytkmgdejpdhlleaa", sum := "1770dab3e024bf4bf5182fc10199c7e76b97d8a0017e88c490fc99b39c546827", func := "backwash/backwashlaw10.PathsLeast", spec := "pathsLeast", unfollowed := true, recurses := true, apart := false, narrowed := true }
def PathsLeastUptoSaid : Prop := pathsLeastUptoRow.holds Try.pinned (OpenSpec.upto pathsLeastSpec)

/-- 'backwashlaw10.PathsReach', WHERE WHAT IT READS IS OF BULK AT MOST 1048576: true; the input reads as it did. -/
def pathsReachUptoRow : OpenClaim := { program := "ytkmgdejpdhlleaa", sum := "1770dab3e024bf4bf5182fc10199c7e76b97d8a0017e88c490fc99b39c546827", func := "backwash/backwashlaw10.PathsReach", spec := "pathsReach", inPlace := ["slices.overlaps[backwash/api.Time]"], unfollowed := true, recurses := true, apart := false, narrowed := true }
def PathsReachUptoSaid : Prop := pathsReachUptoRow.holds Try.pinned (OpenSpec.upto pathsReachSpec)

/-- 'backwashlaw37.LineRight', WHERE WHAT IT READS IS OF BULK AT MOST 1048576: true; the input reads as it did. -/
def lineRightUptoRow : OpenClaim := { program := "ytkmgdejpdhlleaa", sum := "1770dab3e024bf4bf5182fc10199c7e76b97d8a0017e88c490fc99b39c546827", func := "backwash/backwashlaw37.LineRight", spec := "lineRight", unfollowed := true, recurses := true, apart := false, narrowed := true }
def LineRightUptoSaid : Prop := lineRightUptoRow.holds Try.pinned (OpenSpec.upto lineRightSpec)

end Rows
end Go.Proofs.Ytkmgdejpdhlleaa

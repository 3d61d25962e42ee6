/-
  No cell of these rows narrows 'for every input' (looked for: loops, veiled, ifaces, maps, wideKeys, modest, calm, conditions, laid).
  DERIVED. THE GIVEN ROWS OF THIS SEAT. 8 by the template 'for every input the law returns true; each argument reads behind the call as it read before'; 0 by the template 'total and deterministic' (their statements: YtbglfaomebokhaaTotals.lean).
  GIVEN WITH THE SEED: the statements are not yours to turn. If you find one false, say at which input.
  Laid BY PROGRAM, IN A SANDBOX (cutbox-rows.mjs): the forced cells as the released guide's own fill.sh prints them over the translation 6166307e1e8b077c… (all of the seat's roots in one cut). By AI agents, Wed Nov 11 2026. No macro, syntax, notation, axiom, sorry.
-/
import Derived.Test.YtbglfaomebokhaaChecked
import GoSem.Claim
import GoSem.ClaimJoined
import GoSem.ClaimMapViews
import Derived.JoinedTies
import Derived.KernelRfl
namespace Go.Proofs.Ytbglfaomebokhaa
/- THE CELL 'sum', in the pinned program and in every row, IS THE sha256 OF THE DUMP (.gsa) THAT YtbglfaomebokhaaProg.lean LOADS. Nothing in Lean hashes anything: it is a label: what it is worth is what the hold of that sum in a sandbox is worth. -/
noncomputable def Try.pinned : Pinned := { name := "ytbglfaomebokhaa", sum := "6166307e1e8b077cf737f8b74c6e71a0c49fdbdb07fcfa8ccf8584b0b7b40cc5", checked := Try.checked }
namespace Rows
def none {H : Type} : Left H := { results := [], args := [] }

/-- 'backwashlaw13.RouteSplits': WHATEVER THE INPUT: true; the input reads as it did. -/
def routeSplitsSpec : ChangeSpec := { name := "routeSplits", fn := fun _ => fun
  | [d1, d2] => { results := [.lit (.bool true)], args := [d1, d2] }
  | _ => none }
def routeSplitsRow : OpenClaim := { program := "ytbglfaomebokhaa", sum := "6166307e1e8b077cf737f8b74c6e71a0c49fdbdb07fcfa8ccf8584b0b7b40cc5", func := "backwash/backwashlaw13.RouteSplits", spec := "routeSplits", inPlace := ["slices.overlaps[backwash/api.Item]"], unfollowed := true, recurses := true, apart := false }
def RouteSplitsSaid : Prop := routeSplitsRow.holds Try.pinned (OpenSpec.ofChange routeSplitsSpec)

/-- ITS FALSE NEIGHBOUR: 'it returns false'. Refute it at one input. -/
def routeSplitsWrong : ChangeSpec := { name := "routeSplits", fn := fun _ => fun
  | [d1, d2] => { results := [.lit (.bool false)], args := [d1, d2] }
  | _ => none }
def RouteSplitsWrongFalsely : Prop := routeSplitsRow.holds Try.pinned (OpenSpec.ofChange routeSplitsWrong)

/-- 'backwashlaw25.DiffBack': WHATEVER THE INPUT: true; the input reads as it did. -/
def diffBackSpec : ChangeSpec := { name := "diffBack", fn := fun _ => fun
  | [d] => { results := [.lit (.bool true)], args := [d] }
  | _ => none }
def diffBackRow : OpenClaim := { program := "ytbglfaomebokhaa", sum := "6166307e1e8b077cf737f8b74c6e71a0c49fdbdb07fcfa8ccf8584b0b7b40cc5", func := "backwash/backwashlaw25.DiffBack", spec := "diffBack", inPlace := ["slices.overlaps[backwash/api.Item]"], unfollowed := true, recurses := true, apart := false }
def DiffBackSaid : Prop := diffBackRow.holds Try.pinned (OpenSpec.ofChange diffBackSpec)

/-- ITS FALSE NEIGHBOUR: 'it returns false'. Refute it at one input. -/
def diffBackWrong : ChangeSpec := { name := "diffBack", fn := fun _ => fun
  | [d] => { results := [.lit (.bool false)], args := [d] }
  | _ => none }
def DiffBackWrongFalsely : Prop := diffBackRow.holds Try.pinned (OpenSpec.ofChange diffBackWrong)

/-- 'backwashlaw25.DiffPlus': WHATEVER THE INPUT: true; the input reads as it did. -/
def diffPlusSpec : ChangeSpec := { name := "diffPlus", fn := fun _ => fun
  | [d1, d2] => { results := [.lit (.bool true)], args := [d1, d2] }
  | _ => none }
def diffPlusRow : OpenClaim := { program := "ytbglfaomebokhaa", sum := "6166307e1e8b077cf737f8b74c6e71a0c49fdbdb07fcfa8ccf8584b0b7b40cc5", func := "backwash/backwashlaw25.DiffPlus", spec := "diffPlus", inPlace := ["slices.overlaps[backwash/api.Item]"], unfollowed := true, recurses := true, apart := false }
def DiffPlusSaid : Prop := diffPlusRow.holds Try.pinned (OpenSpec.ofChange diffPlusSpec)

/-- ITS FALSE NEIGHBOUR: 'it returns false'. Refute it at one input. -/
def diffPlusWrong : ChangeSpec := { name := "diffPlus", fn := fun _ => fun
  | [d1, d2] => { results := [.lit (.bool false)], args := [d1, d2] }
  | _ => none }
def DiffPlusWrongFalsely : Prop := diffPlusRow.holds Try.pinned (OpenSpec.ofChange diffPlusWrong)

/-- 'backwashlaw05.BagLists': WHATEVER THE INPUT: true; the input reads as it did. -/
def bagListsSpec : ChangeSpec := { name := "bagLists", fn := fun _ => fun
  | [d1, d2] => { results := [.lit (.bool true)], args := [d1, d2] }
  | _ => none }
def bagListsRow : OpenClaim := { program := "ytbglfaomebokhaa", sum := "6166307e1e8b077cf737f8b74c6e71a0c49fdbdb07fcfa8ccf8584b0b7b40cc5", func := "backwash/backwashlaw05.BagLists", spec := "bagLists", inPlace := ["slices.overlaps[backwash/api.Item]"], unfollowed := true, recurses := true, apart := false }
def BagListsSaid : Prop := bagListsRow.holds Try.pinned (OpenSpec.ofChange bagListsSpec)

/-- ITS FALSE NEIGHBOUR: 'it returns false'. Refute it at one input. -/
def bagListsWrong : ChangeSpec := { name := "bagLists", fn := fun _ => fun
  | [d1, d2] => { results := [.lit (.bool false)], args := [d1, d2] }
  | _ => none }
def BagListsWrongFalsely : Prop := bagListsRow.holds Try.pinned (OpenSpec.ofChange bagListsWrong)

/-- 'backwashlaw25.DiffEpochs': WHATEVER THE INPUT: true; the input reads as it did. -/
def diffEpochsSpec : ChangeSpec := { name := "diffEpochs", fn := fun _ => fun
  | [d1, d2, d3] => { results := [.lit (.bool true)], args := [d1, d2, d3] }
  | _ => none }
def diffEpochsRow : OpenClaim := { program := "ytbglfaomebokhaa", sum := "6166307e1e8b077cf737f8b74c6e71a0c49fdbdb07fcfa8ccf8584b0b7b40cc5", func := "backwash/backwashlaw25.DiffEpochs", spec := "diffEpochs", inPlace := ["slices.overlaps[backwash/api.Item]"], unfollowed := true, recurses := true, apart := false }
def DiffEpochsSaid : Prop := diffEpochsRow.holds Try.pinned (OpenSpec.ofChange diffEpochsSpec)

/-- ITS FALSE NEIGHBOUR: 'it returns false'. Refute it at one input. -/
def diffEpochsWrong : ChangeSpec := { name := "diffEpochs", fn := fun _ => fun
  | [d1, d2, d3] => { results := [.lit (.bool false)], args := [d1, d2, d3] }
  | _ => none }
def DiffEpochsWrongFalsely : Prop := diffEpochsRow.holds Try.pinned (OpenSpec.ofChange diffEpochsWrong)

/-- 'backwashlaw05.BagLess': WHATEVER THE INPUT: true; the input reads as it did. -/
def bagLessSpec : ChangeSpec := { name := "bagLess", fn := fun _ => fun
  | [d1, d2, d3, d4] => { results := [.lit (.bool true)], args := [d1, d2, d3, d4] }
  | _ => none }
def bagLessRow : OpenClaim := { program := "ytbglfaomebokhaa", sum := "6166307e1e8b077cf737f8b74c6e71a0c49fdbdb07fcfa8ccf8584b0b7b40cc5", func := "backwash/backwashlaw05.BagLess", spec := "bagLess", inPlace := ["slices.overlaps[backwash/api.Item]"], unfollowed := true, recurses := true, apart := false }
def BagLessSaid : Prop := bagLessRow.holds Try.pinned (OpenSpec.ofChange bagLessSpec)

/-- ITS FALSE NEIGHBOUR: 'it returns false'. Refute it at one input. -/
def bagLessWrong : ChangeSpec := { name := "bagLess", fn := fun _ => fun
  | [d1, d2, d3, d4] => { results := [.lit (.bool false)], args := [d1, d2, d3, d4] }
  | _ => none }
def BagLessWrongFalsely : Prop := bagLessRow.holds Try.pinned (OpenSpec.ofChange bagLessWrong)

/-- 'backwashlaw05.BagSums': WHATEVER THE INPUT: true; the input reads as it did. -/
def bagSumsSpec : ChangeSpec := { name := "bagSums", fn := fun _ => fun
  | [d1, d2, d3] => { results := [.lit (.bool true)], args := [d1, d2, d3] }
  | _ => none }
def bagSumsRow : OpenClaim := { program := "ytbglfaomebokhaa", sum := "6166307e1e8b077cf737f8b74c6e71a0c49fdbdb07fcfa8ccf8584b0b7b40cc5", func := "backwash/backwashlaw05.BagSums", spec := "bagSums", inPlace := ["slices.overlaps[backwash/api.Item]"], unfollowed := true, recurses := true, apart := false }
def BagSumsSaid : Prop := bagSumsRow.holds Try.pinned (OpenSpec.ofChange bagSumsSpec)

/-- ITS FALSE NEIGHBOUR: 'it returns false'. Refute it at one input. -/
def bagSumsWrong : ChangeSpec := { name := "bagSums", fn := fun _ => fun
  | [d1, d2, d3] => { results := [.lit (.bool false)], args := [d1, d2, d3] }
  | _ => none }
def BagSumsWrongFalsely : Prop := bagSumsRow.holds Try.pinned (OpenSpec.ofChange bagSumsWrong)

/-- 'backwashlaw05.BagRight': WHATEVER THE INPUT: true; the input reads as it did. -/
def bagRightSpec : ChangeSpec := { name := "bagRight", fn := fun _ => fun
  | [d1, d2, d3, d4, d5] => { results := [.lit (.bool true)], args := [d1, d2, d3, d4, d5] }
  | _ => none }
def bagRightRow : OpenClaim := { program := "ytbglfaomebokhaa", sum := "6166307e1e8b077cf737f8b74c6e71a0c49fdbdb07fcfa8ccf8584b0b7b40cc5", func := "backwash/backwashlaw05.BagRight", spec := "bagRight", inPlace := ["slices.overlaps[backwash/api.Item]"], unfollowed := true, recurses := true, apart := false }
def BagRightSaid : Prop := bagRightRow.holds Try.pinned (OpenSpec.ofChange bagRightSpec)

/-- ITS FALSE NEIGHBOUR: 'it returns false'. Refute it at one input. -/
def bagRightWrong : ChangeSpec := { name := "bagRight", fn := fun _ => fun
  | [d1, d2, d3, d4, d5] => { results := [.lit (.bool false)], args := [d1, d2, d3, d4, d5] }
  | _ => none }
def BagRightWrongFalsely : Prop := bagRightRow.holds Try.pinned (OpenSpec.ofChange bagRightWrong)

/- THE SECOND FORM. 'bulk': how many values and letters a reading holds, each counted each time it is reached (what is shared counts as often as it is met; a slice's spare places count too). A statement '..UptoSaid' is the law's where the arguments, and the package variables that the reading takes, are together of bulk at most 1048576: NARROWER than '..Said'. Prove '..Said' where nothing that the law and all that it calls make is longer than what came in: it says more and counts as full. Else prove '..UptoSaid'. A law counts once. -/
mutual
def uptoBulk {H : Type} : DataW H → Nat
  | .lit (.string bytes) => bytes.length + 1
  | .lit _ => 1
  | .nil => 1
  | .ptr d => uptoBulk d + 1
  | .slice elems spare => uptoBulkAll elems + uptoBulkAll spare + 1
  | .agg parts => uptoBulkAll parts + 1
  | .iface _ d => uptoBulk d + 1
  | .map entries => uptoBulkEntries entries + 1
  | .held _ => 1
def uptoBulkAll {H : Type} : List (DataW H) → Nat
  | [] => 0
  | d :: r => uptoBulk d + uptoBulkAll r
def uptoBulkEntries {H : Type} : List (Lit × DataW H) → Nat
  | [] => 0
  | x :: r => uptoBulkEntry x + uptoBulkEntries r
def uptoBulkEntry {H : Type} : Lit × DataW H → Nat
  | (.string bytes, d) => bytes.length + uptoBulk d + 1
  | (_, d) => uptoBulk d + 1
 end
def uptoSmall : (H : Type) → List (DataW H) → Bool := fun _ ds => decide (uptoBulkAll ds ≤ 1048576)
def OpenSpec.upto (s : _root_.Go.ChangeSpec) : _root_.Go.OpenSpec := { _root_.Go.OpenSpec.ofChange s with cond := some uptoSmall }

/-- 'backwashlaw13.RouteSplits', WHERE WHAT IT READS IS OF BULK AT MOST 1048576: true; the input reads as it did. -/
def routeSplitsUptoRow : OpenClaim := { program := "ytbglfaomebokhaa", sum := "6166307e1e8b077cf737f8b74c6e71a0c49fdbdb07fcfa8ccf8584b0b7b40cc5", func := "backwash/backwashlaw13.RouteSplits", spec := "routeSplits", inPlace := ["slices.overlaps[backwash/api.Item]"], unfollowed := true, recurses := true, apart := false, narrowed := true }
def RouteSplitsUptoSaid : Prop := routeSplitsUptoRow.holds Try.pinned (OpenSpec.upto routeSplitsSpec)

/-- 'backwashlaw25.DiffBack', WHERE WHAT IT READS IS OF BULK AT MOST 1048576: true; the input reads as it did. -/
def diffBackUptoRow : OpenClaim := { program := "ytbglfaomebokhaa", sum := "6166307e1e8b077cf737f8b74c6e71a0c49fdbdb07fcfa8ccf8584b0b7b40cc5", func := "backwash/backwashlaw25.DiffBack", spec := "diffBack", inPlace := ["slices.overlaps[backwash/api.Item]"], unfollowed := true, recurses := true, apart := false, narrowed := true }
def DiffBackUptoSaid : Prop := diffBackUptoRow.holds Try.pinned (OpenSpec.upto diffBackSpec)

/-- 'backwashlaw25.DiffPlus', WHERE WHAT IT READS IS OF BULK AT MOST 1048576: true; the input reads as it did. -/
def diffPlusUptoRow : OpenClaim := { program := "ytbglfaomebokhaa", sum := "6166307e1e8b077cf737f8b74c6e71a0c49fdbdb07fcfa8ccf8584b0b7b40cc5", func := "backwash/backwashlaw25.DiffPlus", spec := "diffPlus", inPlace := ["slices.overlaps[backwash/api.Item]"], unfollowed := true, recurses := true, apart := false, narrowed := true }
def DiffPlusUptoSaid : Prop := diffPlusUptoRow.holds Try.pinned (OpenSpec.upto diffPlusSpec)

/-- 'backwashlaw05.BagLists', WHERE WHAT IT READS IS OF BULK AT MOST 1048576: true; the input reads as it did. -/
def bagListsUptoRow : OpenClaim := { program := "ytbglfaomebokhaa", sum := "6166307e1e8b077cf737f8b74c6e71a0c49fdbdb07fcfa8ccf8584b0b7b40cc5", func := "backwash/backwashlaw05.BagLists", spec := "bagLists", inPlace := ["slices.overlaps[backwash/api.Item]"], unfollowed := true, recurses := true, apart := false, narrowed := true }
def BagListsUptoSaid : Prop := bagListsUptoRow.holds Try.pinned (OpenSpec.upto bagListsSpec)

/-- 'backwashlaw25.DiffEpochs', WHERE WHAT IT READS IS OF BULK AT MOST 1048576: true; the input reads as it did. -/
def diffEpochsUptoRow : OpenClaim := { program := "ytbglfaomebokhaa", sum := "6166307e1e8b077cf737f8b74c6e71a0c49fdbdb07fcfa8ccf8584b0b7b40cc5", func := "backwash/backwashlaw25.DiffEpochs", spec := "diffEpochs", inPlace := ["slices.overlaps[backwash/api.Item]"], unfollowed := true, recurses := true, apart := false, narrowed := true }
def DiffEpochsUptoSaid : Prop := diffEpochsUptoRow.holds Try.pinned (OpenSpec.upto diffEpochsSpec)

/-- 'backwashlaw05.BagLess', WHERE WHAT IT READS IS OF BULK AT MOST 1048576: true; the input reads as it did. -/
def bagLessUptoRow : OpenClaim := { program := "ytbglfaomebokhaa", sum := "6166307e1e8b077cf737f8b74c6e71a0c49fdbdb07fcfa8ccf8584b0b7b40cc5", func := "backwash/backwashlaw05.BagLess", spec := "bagLess", inPlace := ["slices.overlaps[backwash/api.Item]"], unfollowed := true, recurses := true, apart := false, narrowed := true }
def BagLessUptoSaid : Prop := bagLessUptoRow.holds Try.pinned (OpenSpec.upto bagLessSpec)

/-- 'backwashlaw05.BagSums', WHERE WHAT IT READS IS OF BULK AT MOST 1048576: true; the input reads as it did. -/
def bagSumsUptoRow : OpenClaim := { program := "ytbglfaomebokhaa", sum := "6166307e1e8b077cf737f8b74c6e71a0c49fdbdb07fcfa8ccf8584b0b7b40cc5", func := "backwash/backwashlaw05.BagSums", spec := "bagSums", inPlace := ["slices.overlaps[backwash/api.Item]"], unfollowed := true, recurses := true, apart := false, narrowed := true }
def BagSumsUptoSaid : Prop := bagSumsUptoRow.holds Try.pinned (OpenSpec.upto bagSumsSpec)

/-- 'backwashlaw05.BagRight', WHERE WHAT IT READS IS OF BULK AT MOST 1048576: true; the input reads as it did. -/
def bagRightUptoRow : OpenClaim := { program := "ytbglfaomebokhaa", sum := "6166307e1e8b077cf737f8b74c6e71a0c49fdbdb07fcfa8ccf8584b0b7b40cc5", func := "backwash/backwashlaw05.BagRight", spec := "bagRight", inPlace := ["slices.overlaps[backwash/api.Item]"], unfollowed := true, recurses := true, apart := false, narrowed := true }
def BagRightUptoSaid : Prop := bagRightUptoRow.holds Try.pinned (OpenSpec.upto bagRightSpec)

end Rows
end Go.Proofs.Ytbglfaomebokhaa

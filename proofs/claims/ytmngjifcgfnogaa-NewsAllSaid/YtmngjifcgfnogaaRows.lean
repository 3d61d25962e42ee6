/-
  No cell of these rows narrows 'for every input' (looked for: loops, veiled, ifaces, maps, wideKeys, modest, calm, conditions, laid).
  DERIVED. THE GIVEN ROWS OF THIS SEAT. 7 by the template 'for every input the law returns true; each argument reads behind the call as it read before'; 0 by the template 'total and deterministic' (their statements: YtmngjifcgfnogaaTotals.lean).
  GIVEN WITH THE SEED: the statements are not yours to turn. If you find one false, say at which input.
  Laid BY PROGRAM, IN A SANDBOX (cutbox-rows.mjs): the forced cells as the released guide's own fill.sh prints them over the translation 911c25f5746d1d27… (all of the seat's roots in one cut). By AI agents, Wed Nov 11 2026. No macro, syntax, notation, axiom, sorry.
-/
import Derived.Test.YtmngjifcgfnogaaChecked
import GoSem.Claim
import GoSem.ClaimJoined
import GoSem.ClaimMapViews
import Derived.JoinedTies
import Derived.KernelRfl
namespace Go.Proofs.Ytmngjifcgfnogaa
/- THE CELL 'sum', in the pinned program and in every row, IS THE sha256 OF THE DUMP (.gsa) THAT YtmngjifcgfnogaaProg.lean LOADS. Nothing in Lean hashes anything: it is a label: what it is worth is what the hold of that sum in a sandbox is worth. -/
noncomputable def Try.pinned : Pinned := { name := "ytmngjifcgfnogaa", sum := "911c25f5746d1d274c923ee4bcacbe4f3a15e7367ef4fe61e18292f2b637b16f", checked := Try.checked }
namespace Rows
def none {H : Type} : Left H := { results := [], args := [] }

/-- 'backwashlaw17.TokenRight': WHATEVER THE INPUT: true; the input reads as it did. -/
def tokenRightSpec : ChangeSpec := { name := "tokenRight", fn := fun _ => fun
  | [d1, d2, d3, d4, d5] => { results := [.lit (.bool true)], args := [d1, d2, d3, d4, d5] }
  | _ => none }
def tokenRightRow : OpenClaim := { program := "ytmngjifcgfnogaa", sum := "911c25f5746d1d274c923ee4bcacbe4f3a15e7367ef4fe61e18292f2b637b16f", func := "backwash/backwashlaw17.TokenRight", spec := "tokenRight", inPlace := ["slices.overlaps[backwash/api.Time]"], unfollowed := true, recurses := true, apart := false }
def TokenRightSaid : Prop := tokenRightRow.holds Try.pinned (OpenSpec.ofChange tokenRightSpec)

/-- ITS FALSE NEIGHBOUR: 'it returns false'. Refute it at one input. -/
def tokenRightWrong : ChangeSpec := { name := "tokenRight", fn := fun _ => fun
  | [d1, d2, d3, d4, d5] => { results := [.lit (.bool false)], args := [d1, d2, d3, d4, d5] }
  | _ => none }
def TokenRightWrongFalsely : Prop := tokenRightRow.holds Try.pinned (OpenSpec.ofChange tokenRightWrong)

/-- 'backwashlaw17.TokenRounds': WHATEVER THE INPUT: true; the input reads as it did. -/
def tokenRoundsSpec : ChangeSpec := { name := "tokenRounds", fn := fun _ => fun
  | [d1, d2] => { results := [.lit (.bool true)], args := [d1, d2] }
  | _ => none }
def tokenRoundsRow : OpenClaim := { program := "ytmngjifcgfnogaa", sum := "911c25f5746d1d274c923ee4bcacbe4f3a15e7367ef4fe61e18292f2b637b16f", func := "backwash/backwashlaw17.TokenRounds", spec := "tokenRounds", inPlace := ["slices.overlaps[backwash/api.Time]"], unfollowed := true, recurses := true, apart := false }
def TokenRoundsSaid : Prop := tokenRoundsRow.holds Try.pinned (OpenSpec.ofChange tokenRoundsSpec)

/-- ITS FALSE NEIGHBOUR: 'it returns false'. Refute it at one input. -/
def tokenRoundsWrong : ChangeSpec := { name := "tokenRounds", fn := fun _ => fun
  | [d1, d2] => { results := [.lit (.bool false)], args := [d1, d2] }
  | _ => none }
def TokenRoundsWrongFalsely : Prop := tokenRoundsRow.holds Try.pinned (OpenSpec.ofChange tokenRoundsWrong)

/-- 'backwashlaw17.TokenSure': WHATEVER THE INPUT: true; the input reads as it did. -/
def tokenSureSpec : ChangeSpec := { name := "tokenSure", fn := fun _ => fun
  | [d1, d2] => { results := [.lit (.bool true)], args := [d1, d2] }
  | _ => none }
def tokenSureRow : OpenClaim := { program := "ytmngjifcgfnogaa", sum := "911c25f5746d1d274c923ee4bcacbe4f3a15e7367ef4fe61e18292f2b637b16f", func := "backwash/backwashlaw17.TokenSure", spec := "tokenSure", inPlace := ["slices.overlaps[backwash/api.Time]"], unfollowed := true, recurses := true, apart := false }
def TokenSureSaid : Prop := tokenSureRow.holds Try.pinned (OpenSpec.ofChange tokenSureSpec)

/-- ITS FALSE NEIGHBOUR: 'it returns false'. Refute it at one input. -/
def tokenSureWrong : ChangeSpec := { name := "tokenSure", fn := fun _ => fun
  | [d1, d2] => { results := [.lit (.bool false)], args := [d1, d2] }
  | _ => none }
def TokenSureWrongFalsely : Prop := tokenSureRow.holds Try.pinned (OpenSpec.ofChange tokenSureWrong)

/-- 'backwashlaw26.NewsRight': WHATEVER THE INPUT: true; the input reads as it did. -/
def newsRightSpec : ChangeSpec := { name := "newsRight", fn := fun _ => fun
  | [d1, d2, d3] => { results := [.lit (.bool true)], args := [d1, d2, d3] }
  | _ => none }
def newsRightRow : OpenClaim := { program := "ytmngjifcgfnogaa", sum := "911c25f5746d1d274c923ee4bcacbe4f3a15e7367ef4fe61e18292f2b637b16f", func := "backwash/backwashlaw26.NewsRight", spec := "newsRight", inPlace := ["slices.overlaps[backwash/api.Count]"], unfollowed := true, recurses := true, apart := false }
def NewsRightSaid : Prop := newsRightRow.holds Try.pinned (OpenSpec.ofChange newsRightSpec)

/-- ITS FALSE NEIGHBOUR: 'it returns false'. Refute it at one input. -/
def newsRightWrong : ChangeSpec := { name := "newsRight", fn := fun _ => fun
  | [d1, d2, d3] => { results := [.lit (.bool false)], args := [d1, d2, d3] }
  | _ => none }
def NewsRightWrongFalsely : Prop := newsRightRow.holds Try.pinned (OpenSpec.ofChange newsRightWrong)

/-- 'backwashlaw26.NewsAll': WHATEVER THE INPUT: true; the input reads as it did. -/
def newsAllSpec : ChangeSpec := { name := "newsAll", fn := fun _ => fun
  | [d1, d2, d3, d4] => { results := [.lit (.bool true)], args := [d1, d2, d3, d4] }
  | _ => none }
def newsAllRow : OpenClaim := { program := "ytmngjifcgfnogaa", sum := "911c25f5746d1d274c923ee4bcacbe4f3a15e7367ef4fe61e18292f2b637b16f", func := "backwash/backwashlaw26.NewsAll", spec := "newsAll", inPlace := ["slices.overlaps[backwash/api.Count]"], unfollowed := true, recurses := true, apart := false }
def NewsAllSaid : Prop := newsAllRow.holds Try.pinned (OpenSpec.ofChange newsAllSpec)

/-- ITS FALSE NEIGHBOUR: 'it returns false'. Refute it at one input. -/
def newsAllWrong : ChangeSpec := { name := "newsAll", fn := fun _ => fun
  | [d1, d2, d3, d4] => { results := [.lit (.bool false)], args := [d1, d2, d3, d4] }
  | _ => none }
def NewsAllWrongFalsely : Prop := newsAllRow.holds Try.pinned (OpenSpec.ofChange newsAllWrong)

/-- 'backwashlaw26.NewsCounts': WHATEVER THE INPUT: true; the input reads as it did. -/
def newsCountsSpec : ChangeSpec := { name := "newsCounts", fn := fun _ => fun
  | [d1, d2, d3] => { results := [.lit (.bool true)], args := [d1, d2, d3] }
  | _ => none }
def newsCountsRow : OpenClaim := { program := "ytmngjifcgfnogaa", sum := "911c25f5746d1d274c923ee4bcacbe4f3a15e7367ef4fe61e18292f2b637b16f", func := "backwash/backwashlaw26.NewsCounts", spec := "newsCounts", inPlace := ["slices.overlaps[backwash/api.Count]"], unfollowed := true, recurses := true, apart := false }
def NewsCountsSaid : Prop := newsCountsRow.holds Try.pinned (OpenSpec.ofChange newsCountsSpec)

/-- ITS FALSE NEIGHBOUR: 'it returns false'. Refute it at one input. -/
def newsCountsWrong : ChangeSpec := { name := "newsCounts", fn := fun _ => fun
  | [d1, d2, d3] => { results := [.lit (.bool false)], args := [d1, d2, d3] }
  | _ => none }
def NewsCountsWrongFalsely : Prop := newsCountsRow.holds Try.pinned (OpenSpec.ofChange newsCountsWrong)

/-- 'backwashlaw26.NewsSafe': WHATEVER THE INPUT: true; the input reads as it did. -/
def newsSafeSpec : ChangeSpec := { name := "newsSafe", fn := fun _ => fun
  | [d1, d2, d3] => { results := [.lit (.bool true)], args := [d1, d2, d3] }
  | _ => none }
def newsSafeRow : OpenClaim := { program := "ytmngjifcgfnogaa", sum := "911c25f5746d1d274c923ee4bcacbe4f3a15e7367ef4fe61e18292f2b637b16f", func := "backwash/backwashlaw26.NewsSafe", spec := "newsSafe", inPlace := ["slices.overlaps[backwash/api.Count]", "slices.overlaps[backwash/api.Time]"], unfollowed := true, recurses := true, apart := false }
def NewsSafeSaid : Prop := newsSafeRow.holds Try.pinned (OpenSpec.ofChange newsSafeSpec)

/-- ITS FALSE NEIGHBOUR: 'it returns false'. Refute it at one input. -/
def newsSafeWrong : ChangeSpec := { name := "newsSafe", fn := fun _ => fun
  | [d1, d2, d3] => { results := [.lit (.bool false)], args := [d1, d2, d3] }
  | _ => none }
def NewsSafeWrongFalsely : Prop := newsSafeRow.holds Try.pinned (OpenSpec.ofChange newsSafeWrong)

/- THE SECOND FORM. 'bulk': how many values and letters a reading holds, each counted each time it is reached (what is shared counts as often as it is met; a slice's spare places count too). A statement '..UptoSaid' is the law's where the arguments, and the package variables that the reading takes, are together of bulk at most 1048576: NARROWER than '..Said'. Prove '..Said' where nothing that the law and all that it calls make is longer than what came in: it says more and counts as full. Else prove '..UptoSaid'. A law counts once. -/
mutual
def uptoBulk {H : Type} : DataW H → Nat
  | .lit (.string bytes) => bytes.length + 1
  | .lit _ => 1
  | .nil => 1
  | .ptr d => uptoBulk d + 1
  | .slice elems spare => uptoBulkAll elems + uptoBulkAll spare + 1
  | .agg parts => uptoBulkAll parts + 1
  | .iface _ d => uptoBulk d + 1
  | .map entries => uptoBulkEntries entries + 1
  | .held _ => 1
def uptoBulkAll {H : Type} : List (DataW H) → Nat
  | [] => 0
  | d :: r => uptoBulk d + uptoBulkAll r
def uptoBulkEntries {H : Type} : List (Lit × DataW H) → Nat
  | [] => 0
  | x :: r => uptoBulkEntry x + uptoBulkEntries r
def uptoBulkEntry {H : Type} : Lit × DataW H → Nat
  | (.string bytes, d) => bytes.length + uptoBulk d + 1
  | (_, d) => uptoBulk d + 1
 end
def uptoSmall : (H : Type) → List (DataW H) → Bool := fun _ ds => decide (uptoBulkAll ds ≤ 1048576)
def OpenSpec.upto (s : _root_.Go.ChangeSpec) : _root_.Go.OpenSpec := { _root_.Go.OpenSpec.ofChange s with cond := some uptoSmall }

/-- 'backwashlaw17.TokenRight', WHERE WHAT IT READS IS OF BULK AT MOST 1048576: true; the input reads as it did. -/
def tokenRightUptoRow : OpenClaim := { program := "ytmngjifcgfnogaa", sum := "911c25f5746d1d274c923ee4bcacbe4f3a15e7367ef4fe61e18292f2b637b16f", func := "backwash/backwashlaw17.TokenRight", spec := "tokenRight", inPlace := ["slices.overlaps[backwash/api.Time]"], unfollowed := true, recurses := true, apart := false, narrowed := true }
def TokenRightUptoSaid : Prop := tokenRightUptoRow.holds Try.pinned (OpenSpec.upto tokenRightSpec)

/-- 'backwashlaw17.TokenRounds', WHERE WHAT IT READS IS OF BULK AT MOST 1048576: true; the input reads as it did. -/
def tokenRoundsUptoRow : OpenClaim := { program := "ytmngjifcgfnogaa", sum := "911c25f5746d1d274c923ee4bcacbe4f3a15e7367ef4fe61e18292f2b637b16f", func := "backwash/backwashlaw17.TokenRounds", spec := "tokenRounds", inPlace := ["slices.overlaps[backwash/api.Time]"], unfollowed := true, recurses := true, apart := false, narrowed := true }
def TokenRoundsUptoSaid : Prop := tokenRoundsUptoRow.holds Try.pinned (OpenSpec.upto tokenRoundsSpec)

/-- 'backwashlaw17.TokenSure', WHERE WHAT IT READS IS OF BULK AT MOST 1048576: true; the input reads as it did. -/
def tokenSureUptoRow : OpenClaim := { program := "ytmngjifcgfnogaa", sum := "911c25f5746d1d274c923ee4bcacbe4f3a15e7367ef4fe61e18292f2b637b16f", func := "backwash/backwashlaw17.TokenSure", spec := "tokenSure", inPlace := ["slices.overlaps[backwash/api.Time]"], unfollowed := true, recurses := true, apart := false, narrowed := true }
def TokenSureUptoSaid : Prop := tokenSureUptoRow.holds Try.pinned (OpenSpec.upto tokenSureSpec)

/-- 'backwashlaw26.NewsRight', WHERE WHAT IT READS IS OF BULK AT MOST 1048576: true; the input reads as it did. -/
def newsRightUptoRow : OpenClaim := { program := "ytmngjifcgfnogaa", sum := "911c25f5746d1d274c923ee4bcacbe4f3a15e7367ef4fe61e18292f2b637b16f", func := "backwash/backwashlaw26.NewsRight", spec := "newsRight", inPlace := ["slices.overlaps[backwash/api.Count]"], unfollowed := true, recurses := true, apart := false, narrowed := true }
def NewsRightUptoSaid : Prop := newsRightUptoRow.holds Try.pinned (OpenSpec.upto newsRightSpec)

/-- 'backwashlaw26.NewsAll', WHERE WHAT IT READS IS OF BULK AT MOST 1048576: true; the input reads as it did. -/
def newsAllUptoRow : OpenClaim := { program := "ytmngjifcgfnogaa", sum := "911c25f5746d1d274c923ee4bcacbe4f3a15e7367ef4fe61e18292f2b637b16f", func := "backwash/backwashlaw26.NewsAll", spec := "newsAll", inPlace := ["slices.overlaps[backwash/api.Count]"], unfollowed := true, recurses := true, apart := false, narrowed := true }
def NewsAllUptoSaid : Prop := newsAllUptoRow.holds Try.pinned (OpenSpec.upto newsAllSpec)

/-- 'backwashlaw26.NewsCounts', WHERE WHAT IT READS IS OF BULK AT MOST 1048576: true; the input reads as it did. -/
def newsCountsUptoRow : OpenClaim := { program := "ytmngjifcgfnogaa", sum := "911c25f5746d1d274c923ee4bcacbe4f3a15e7367ef4fe61e18292f2b637b16f", func := "backwash/backwashlaw26.NewsCounts", spec := "newsCounts", inPlace := ["slices.overlaps[backwash/api.Count]"], unfollowed := true, recurses := true, apart := false, narrowed := true }
def NewsCountsUptoSaid : Prop := newsCountsUptoRow.holds Try.pinned (OpenSpec.upto newsCountsSpec)

/-- 'backwashlaw26.NewsSafe', WHERE WHAT IT READS IS OF BULK AT MOST 1048576: true; the input reads as it did. -/
def newsSafeUptoRow : OpenClaim := { program := "ytmngjifcgfnogaa", sum := "911c25f5746d1d274c923ee4bcacbe4f3a15e7367ef4fe61e18292f2b637b16f", func := "backwash/backwashlaw26.NewsSafe", spec := "newsSafe", inPlace := ["slices.overlaps[backwash/api.Count]", "slices.overlaps[backwash/api.Time]"], unfollowed := true, recurses := true, apart := false, narrowed := true }
def NewsSafeUptoSaid : Prop := newsSafeUptoRow.holds Try.pinned (OpenSpec.upto newsSafeSpec)

end Rows
end Go.Proofs.Ytmngjifcgfnogaa

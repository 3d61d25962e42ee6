/-
  No cell of these rows narrows 'for every input' (looked for: loops, veiled, ifaces, maps, wideKeys, modest, calm, conditions, laid).
  DERIVED. THE GIVEN ROWS OF THIS SEAT. 5 by the template 'for every input the law returns true; each argument reads behind the call as it read before'; 0 by the template 'total and deterministic' (their statements: YtddckdlkopohhaaTotals.lean).
  GIVEN WITH THE SEED: the statements are not yours to turn. If you find one false, say at which input.
  Laid BY PROGRAM, IN A SANDBOX (cutbox-rows.mjs): the forced cells as the released guide's own fill.sh prints them over the translation 144cd8b90a35ab8d… (all of the seat's roots in one cut). By AI agents, Wed Nov 11 2026. No macro, syntax, notation, axiom, sorry.
-/
import Derived.Test.YtddckdlkopohhaaChecked
import GoSem.Claim
import GoSem.ClaimJoined
import GoSem.ClaimMapViews
import Derived.JoinedTies
import Derived.KernelRfl
namespace Go.Proofs.Ytddckdlkopohhaa
/- THE CELL 'sum', in the pinned program and in every row, IS THE sha256 OF THE DUMP (.gsa) THAT YtddckdlkopohhaaProg.lean LOADS. Nothing in Lean hashes anything: it is a label: what it is worth is what the hold of that sum in a sandbox is worth. -/
noncomputable def Try.pinned : Pinned := { name := "ytddckdlkopohhaa", sum := "144cd8b90a35ab8d01075de399888fb82589a72bdda261916c83634d01b753f2", checked := Try.checked }
namespace Rows
def none {H : Type} : Left H := { results := [], args := [] }

/-- 'backwashlaw07.ProgRight': WHATEVER THE INPUT: true; the input reads as it did. -/
def progRightSpec : ChangeSpec := { name := "progRight", fn := fun _ => fun
  | [d1, d2] => { results := [.lit (.bool true)], args := [d1, d2] }
  | _ => none }
def progRightRow : OpenClaim := { program := "ytddckdlkopohhaa", sum := "144cd8b90a35ab8d01075de399888fb82589a72bdda261916c83634d01b753f2", func := "backwash/backwashlaw07.ProgRight", spec := "progRight", unfollowed := true, recurses := true, apart := false }
def ProgRightSaid : Prop := progRightRow.holds Try.pinned (OpenSpec.ofChange progRightSpec)

/-- ITS FALSE NEIGHBOUR: 'it returns false'. Refute it at one input. -/
def progRightWrong : ChangeSpec := { name := "progRight", fn := fun _ => fun
  | [d1, d2] => { results := [.lit (.bool false)], args := [d1, d2] }
  | _ => none }
def ProgRightWrongFalsely : Prop := progRightRow.holds Try.pinned (OpenSpec.ofChange progRightWrong)

/-- 'backwashlaw07.ProgEnds': WHATEVER THE INPUT: true; the input reads as it did. -/
def progEndsSpec : ChangeSpec := { name := "progEnds", fn := fun _ => fun
  | [d1, d2] => { results := [.lit (.bool true)], args := [d1, d2] }
  | _ => none }
def progEndsRow : OpenClaim := { program := "ytddckdlkopohhaa", sum := "144cd8b90a35ab8d01075de399888fb82589a72bdda261916c83634d01b753f2", func := "backwash/backwashlaw07.ProgEnds", spec := "progEnds", unfollowed := true, recurses := true, apart := false }
def ProgEndsSaid : Prop := progEndsRow.holds Try.pinned (OpenSpec.ofChange progEndsSpec)

/-- ITS FALSE NEIGHBOUR: 'it returns false'. Refute it at one input. -/
def progEndsWrong : ChangeSpec := { name := "progEnds", fn := fun _ => fun
  | [d1, d2] => { results := [.lit (.bool false)], args := [d1, d2] }
  | _ => none }
def ProgEndsWrongFalsely : Prop := progEndsRow.holds Try.pinned (OpenSpec.ofChange progEndsWrong)

/-- 'backwashlaw07.ProgNumbers': WHATEVER THE INPUT: true; the input reads as it did. -/
def progNumbersSpec : ChangeSpec := { name := "progNumbers", fn := fun _ => fun
  | [d1, d2] => { results := [.lit (.bool true)], args := [d1, d2] }
  | _ => none }
def progNumbersRow : OpenClaim := { program := "ytddckdlkopohhaa", sum := "144cd8b90a35ab8d01075de399888fb82589a72bdda261916c83634d01b753f2", func := "backwash/backwashlaw07.ProgNumbers", spec := "progNumbers", unfollowed := true, recurses := true, apart := false }
def ProgNumbersSaid : Prop := progNumbersRow.holds Try.pinned (OpenSpec.ofChange progNumbersSpec)

/-- ITS FALSE NEIGHBOUR: 'it returns false'. Refute it at one input. -/
def progNumbersWrong : ChangeSpec := { name := "progNumbers", fn := fun _ => fun
  | [d1, d2] => { results := [.lit (.bool false)], args := [d1, d2] }
  | _ => none }
def ProgNumbersWrongFalsely : Prop := progNumbersRow.holds Try.pinned (OpenSpec.ofChange progNumbersWrong)

/-- 'backwashlaw07.ProgAround': WHATEVER THE INPUT: true; the input reads as it did. -/
def progAroundSpec : ChangeSpec := { name := "progAround", fn := fun _ => fun
  | [d1, d2] => { results := [.lit (.bool true)], args := [d1, d2] }
  | _ => none }
def progAroundRow : OpenClaim := { program := "ytddckdlkopohhaa", sum := "144cd8b90a35ab8d01075de399888fb82589a72bdda261916c83634d01b753f2", func := "backwash/backwashlaw07.ProgAround", spec := "progAround", unfollowed := true, recurses := true, apart := false }
def ProgAroundSaid : Prop := progAroundRow.holds Try.pinned (OpenSpec.ofChange progAroundSpec)

/-- ITS FALSE NEIGHBOUR: 'it returns false'. Refute it at one input. -/
def progAroundWrong : ChangeSpec := { name := "progAround", fn := fun _ => fun
  | [d1, d2] => { results := [.lit (.bool false)], args := [d1, d2] }
  | _ => none }
def ProgAroundWrongFalsely : Prop := progAroundRow.holds Try.pinned (OpenSpec.ofChange progAroundWrong)

/-- 'backwashlaw07.ProgEcho': WHATEVER THE INPUT: true; the input reads as it did. -/
def progEchoSpec : ChangeSpec := { name := "progEcho", fn := fun _ => fun
  | [d1, d2] => { results := [.lit (.bool true)], args := [d1, d2] }
  | _ => none }
def progEchoRow : OpenClaim := { program := "ytddckdlkopohhaa", sum := "144cd8b90a35ab8d01075de399888fb82589a72bdda261916c83634d01b753f2", func := "backwash/backwashlaw07.ProgEcho", spec := "progEcho", unfollowed := true, recurses := true, apart := false }
def ProgEchoSaid : Prop := progEchoRow.holds Try.pinned (OpenSpec.ofChange progEchoSpec)

/-- ITS FALSE NEIGHBOUR: 'it returns false'. Refute it at one input. -/
def progEchoWrong : ChangeSpec := { name := "progEcho", fn := fun _ => fun
  | [d1, d2] => { results := [.lit (.bool false)], args := [d1, d2] }
  | _ => none }
def ProgEchoWrongFalsely : Prop := progEchoRow.holds Try.pinned (OpenSpec.ofChange progEchoWrong)

/- THE SECOND FORM. 'bulk': how many values and letters a reading holds, each counted each time it is reached (what is shared counts as often as it is met; a slice's spare places count too). A statement '..UptoSaid' is the law's where the arguments, and the package variables that the reading takes, are together of bulk at most 1048576: NARROWER than '..Said'. Prove '..Said' where nothing that the law and all that it calls make is longer than what came in: it says more and counts as full. Else prove '..UptoSaid'. A law counts once. -/
mutual
def uptoBulk {H : Type} : DataW H → Nat
  | .lit (.string bytes) => bytes.length + 1
  | .lit _ => 1
  | .nil => 1
  | .ptr d => uptoBulk d + 1
  | .slice elems spare => uptoBulkAll elems + uptoBulkAll spare + 1
  | .agg parts => uptoBulkAll parts + 1
  | .iface _ d => uptoBulk d + 1
  | .map entries => uptoBulkEntries entries + 1
  | .held _ => 1
def uptoBulkAll {H : Type} : List (DataW H) → Nat
  | [] => 0
  | d :: r => uptoBulk d + uptoBulkAll r
def uptoBulkEntries {H : Type} : List (Lit × DataW H) → Nat
  | [] => 0
  | x :: r => uptoBulkEntry x + uptoBulkEntries r
def uptoBulkEntry {H : Type} : Lit × DataW H → Nat
  | (.string bytes, d) => bytes.length + uptoBulk d + 1
  | (_, d) => uptoBulk d + 1
 end
def uptoSmall : (H : Type) → List (DataW H) → Bool := fun _ ds => decide (uptoBulkAll ds ≤ 1048576)
def OpenSpec.upto (s : _root_.Go.ChangeSpec) : _root_.Go.OpenSpec := { _root_.Go.OpenSpec.ofChange s with cond := some uptoSmall }

/-- 'backwashlaw07.ProgRight', WHERE WHAT IT READS IS OF BULK AT MOST 1048576: true; the input reads as it did. -/
def progRightUptoRow : OpenClaim := { program := "ytddckdlkopohhaa", sum := "144cd8b90a35ab8d01075de399888fb82589a72bdda261916c83634d01b753f2", func := "backwash/backwashlaw07.ProgRight", spec := "progRight", unfollowed := true, recurses := true, apart := false, narrowed := true }
def ProgRightUptoSaid : Prop := progRightUptoRow.holds Try.pinned (OpenSpec.upto progRightSpec)

/-- 'backwashlaw07.ProgEnds', WHERE WHAT IT READS IS OF BULK AT MOST 1048576: true; the input reads as it did. -/
def progEndsUptoRow : OpenClaim := { program := "ytddckdlkopohhaa", sum := "144cd8b90a35ab8d01075de399888fb82589a72bdda261916c83634d01b753f2", func := "backwash/backwashlaw07.ProgEnds", spec := "progEnds", unfollowed := true, recurses := true, apart := false, narrowed := true }
def ProgEndsUptoSaid : Prop := progEndsUptoRow.holds Try.pinned (OpenSpec.upto progEndsSpec)

/-- 'backwashlaw07.ProgNumbers', WHERE WHAT IT READS IS OF BULK AT MOST 1048576: true; the input reads as it did. -/
def progNumbersUptoRow : OpenClaim := { program := "ytddckdlkopohhaa", sum := "144cd8b90a35ab8d01075de399888fb82589a72bdda261916c83634d01b753f2", func := "backwash/backwashlaw07.ProgNumbers", spec := "progNumbers", unfollowed := true, recurses := true, apart := false, narrowed := true }
def ProgNumbersUptoSaid : Prop := progNumbersUptoRow.holds Try.pinned (OpenSpec.upto progNumbersSpec)

/-- 'backwashlaw07.ProgAround', WHERE WHAT IT READS IS OF BULK AT MOST 1048576: true; the input reads as it did. -/
def progAroundUptoRow : OpenClaim := { program := "ytddckdlkopohhaa", sum := "144cd8b90a35ab8d01075de399888fb82589a72bdda261916c83634d01b753f2", func := "backwash/backwashlaw07.ProgAround", spec := "progAround", unfollowed := true, recurses := true, apart := false, narrowed := true }
def ProgAroundUptoSaid : Prop := progAroundUptoRow.holds Try.pinned (OpenSpec.upto progAroundSpec)

/-- 'backwashlaw07.ProgEcho', WHERE WHAT IT READS IS OF BULK AT MOST 1048576: true; the input reads as it did. -/
def progEchoUptoRow : OpenClaim := { program := "ytddckdlkopohhaa", sum := "144cd8b90a35ab8d01075de399888fb82589a72bdda261916c83634d01b753f2", func := "backwash/backwashlaw07.ProgEcho", spec := "progEcho", unfollowed := true, recurses := true, apart := false, narrowed := true }
def ProgEchoUptoSaid : Prop := progEchoUptoRow.holds Try.pinned (OpenSpec.upto progEchoSpec)

end Rows
end Go.Proofs.Ytddckdlkopohhaa

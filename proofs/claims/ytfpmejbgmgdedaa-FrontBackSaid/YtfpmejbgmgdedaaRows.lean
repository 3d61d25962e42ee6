/-
  No cell of these rows narrows 'for every input' (looked for: loops, veiled, ifaces, maps, wideKeys, modest, calm, conditions, laid).
  DERIVED. THE GIVEN ROWS OF THIS SEAT. 6 by the template 'for every input the law returns true; each argument reads behind the call as it read before'; 0 by the template 'total and deterministic' (their statements: YtfpmejbgmgdedaaTotals.lean).
  GIVEN WITH THE SEED: the statements are not yours to turn. If you find one false, say at which input.
  Laid BY PROGRAM, IN A SANDBOX (cutbox-rows.mjs): the forced cells as the released guide's own fill.sh prints them over the translation df31e37a612e8ccc… (all of the seat's roots in one cut). By AI agents, Wed Nov 11 2026. No macro, syntax, notation, axiom, sorry.
-/
import Derived.Test.YtfpmejbgmgdedaaChecked
import GoSem.Claim
import GoSem.ClaimJoined
import GoSem.ClaimMapViews
import Derived.JoinedTies
import Derived.KernelRfl
namespace Go.Proofs.Ytfpmejbgmgdedaa
/- THE CELL 'sum', in the pinned program and in every row, IS THE sha256 OF THE DUMP (.gsa) THAT YtfpmejbgmgdedaaProg.lean LOADS. Nothing in Lean hashes anything: it is a label: what it is worth is what the hold of that sum in a sandbox is worth. -/
noncomputable def Try.pinned : Pinned := { name := "ytfpmejbgmgdedaa", sum := "df31e37a612e8ccc9ad66d092849801019efe2b36b6e040acb69b2c736d59a5e", checked := Try.checked }
namespace Rows
def none {H : Type} : Left H := { results := [], args := [] }

/-- 'backwashlaw03.ChainLowest': WHATEVER THE INPUT: true; the input reads as it did. -/
def chainLowestSpec : ChangeSpec := { name := "chainLowest", fn := fun _ => fun
  | [d1, d2] => { results := [.lit (.bool true)], args := [d1, d2] }
  | _ => none }
def chainLowestRow : OpenClaim := { program := "ytfpmejbgmgdedaa", sum := "df31e37a612e8ccc9ad66d092849801019efe2b36b6e040acb69b2c736d59a5e", func := "backwash/backwashlaw03.ChainLowest", spec := "chainLowest", inPlace := ["slices.overlaps[backwash/api.Time]"], unfollowed := true, recurses := true, apart := false }
def ChainLowestSaid : Prop := chainLowestRow.holds Try.pinned (OpenSpec.ofChange chainLowestSpec)

/-- ITS FALSE NEIGHBOUR: 'it returns false'. Refute it at one input. -/
def chainLowestWrong : ChangeSpec := { name := "chainLowest", fn := fun _ => fun
  | [d1, d2] => { results := [.lit (.bool false)], args := [d1, d2] }
  | _ => none }
def ChainLowestWrongFalsely : Prop := chainLowestRow.holds Try.pinned (OpenSpec.ofChange chainLowestWrong)

/-- 'backwashlaw03.ChainOrder': WHATEVER THE INPUT: true; the input reads as it did. -/
def chainOrderSpec : ChangeSpec := { name := "chainOrder", fn := fun _ => fun
  | [d1, d2, d3] => { results := [.lit (.bool true)], args := [d1, d2, d3] }
  | _ => none }
def chainOrderRow : OpenClaim := { program := "ytfpmejbgmgdedaa", sum := "df31e37a612e8ccc9ad66d092849801019efe2b36b6e040acb69b2c736d59a5e", func := "backwash/backwashlaw03.ChainOrder", spec := "chainOrder", inPlace := ["slices.overlaps[backwash/api.Time]"], unfollowed := true, recurses := true, apart := false }
def ChainOrderSaid : Prop := chainOrderRow.holds Try.pinned (OpenSpec.ofChange chainOrderSpec)

/-- ITS FALSE NEIGHBOUR: 'it returns false'. Refute it at one input. -/
def chainOrderWrong : ChangeSpec := { name := "chainOrder", fn := fun _ => fun
  | [d1, d2, d3] => { results := [.lit (.bool false)], args := [d1, d2, d3] }
  | _ => none }
def ChainOrderWrongFalsely : Prop := chainOrderRow.holds Try.pinned (OpenSpec.ofChange chainOrderWrong)

/-- 'backwashlaw03.ChainRight': WHATEVER THE INPUT: true; the input reads as it did. -/
def chainRightSpec : ChangeSpec := { name := "chainRight", fn := fun _ => fun
  | [d1, d2, d3] => { results := [.lit (.bool true)], args := [d1, d2, d3] }
  | _ => none }
def chainRightRow : OpenClaim := { program := "ytfpmejbgmgdedaa", sum := "df31e37a612e8ccc9ad66d092849801019efe2b36b6e040acb69b2c736d59a5e", func := "backwash/backwashlaw03.ChainRight", spec := "chainRight", inPlace := ["slices.overlaps[backwash/api.Time]"], unfollowed := true, recurses := true, apart := false }
def ChainRightSaid : Prop := chainRightRow.holds Try.pinned (OpenSpec.ofChange chainRightSpec)

/-- ITS FALSE NEIGHBOUR: 'it returns false'. Refute it at one input. -/
def chainRightWrong : ChangeSpec := { name := "chainRight", fn := fun _ => fun
  | [d1, d2, d3] => { results := [.lit (.bool false)], args := [d1, d2, d3] }
  | _ => none }
def ChainRightWrongFalsely : Prop := chainRightRow.holds Try.pinned (OpenSpec.ofChange chainRightWrong)

/-- 'backwashlaw04.FrontBack': WHATEVER THE INPUT: true; the input reads as it did. -/
def frontBackSpec : ChangeSpec := { name := "frontBack", fn := fun _ => fun
  | [d1, d2] => { results := [.lit (.bool true)], args := [d1, d2] }
  | _ => none }
def frontBackRow : OpenClaim := { program := "ytfpmejbgmgdedaa", sum := "df31e37a612e8ccc9ad66d092849801019efe2b36b6e040acb69b2c736d59a5e", func := "backwash/backwashlaw04.FrontBack", spec := "frontBack", inPlace := ["slices.overlaps[backwash/api.Count]", "slices.overlaps[backwash/api.Time]"], unfollowed := true, recurses := true, apart := false }
def FrontBackSaid : Prop := frontBackRow.holds Try.pinned (OpenSpec.ofChange frontBackSpec)

/-- ITS FALSE NEIGHBOUR: 'it returns false'. Refute it at one input. -/
def frontBackWrong : ChangeSpec := { name := "frontBack", fn := fun _ => fun
  | [d1, d2] => { results := [.lit (.bool false)], args := [d1, d2] }
  | _ => none }
def FrontBackWrongFalsely : Prop := frontBackRow.holds Try.pinned (OpenSpec.ofChange frontBackWrong)

/-- 'backwashlaw04.FrontLowest': WHATEVER THE INPUT: true; the input reads as it did. -/
def frontLowestSpec : ChangeSpec := { name := "frontLowest", fn := fun _ => fun
  | [d1, d2] => { results := [.lit (.bool true)], args := [d1, d2] }
  | _ => none }
def frontLowestRow : OpenClaim := { program := "ytfpmejbgmgdedaa", sum := "df31e37a612e8ccc9ad66d092849801019efe2b36b6e040acb69b2c736d59a5e", func := "backwash/backwashlaw04.FrontLowest", spec := "frontLowest", inPlace := ["slices.overlaps[backwash/api.Count]", "slices.overlaps[backwash/api.Time]"], unfollowed := true, recurses := true, apart := false }
def FrontLowestSaid : Prop := frontLowestRow.holds Try.pinned (OpenSpec.ofChange frontLowestSpec)

/-- ITS FALSE NEIGHBOUR: 'it returns false'. Refute it at one input. -/
def frontLowestWrong : ChangeSpec := { name := "frontLowest", fn := fun _ => fun
  | [d1, d2] => { results := [.lit (.bool false)], args := [d1, d2] }
  | _ => none }
def FrontLowestWrongFalsely : Prop := frontLowestRow.holds Try.pinned (OpenSpec.ofChange frontLowestWrong)

/-- 'backwashlaw04.FrontRight': WHATEVER THE INPUT: true; the input reads as it did. -/
def frontRightSpec : ChangeSpec := { name := "frontRight", fn := fun _ => fun
  | [d1, d2, d3, d4] => { results := [.lit (.bool true)], args := [d1, d2, d3, d4] }
  | _ => none }
def frontRightRow : OpenClaim := { program := "ytfpmejbgmgdedaa", sum := "df31e37a612e8ccc9ad66d092849801019efe2b36b6e040acb69b2c736d59a5e", func := "backwash/backwashlaw04.FrontRight", spec := "frontRight", inPlace := ["slices.overlaps[backwash/api.Count]", "slices.overlaps[backwash/api.Time]"], unfollowed := true, recurses := true, apart := false }
def FrontRightSaid : Prop := frontRightRow.holds Try.pinned (OpenSpec.ofChange frontRightSpec)

/-- ITS FALSE NEIGHBOUR: 'it returns false'. Refute it at one input. -/
def frontRightWrong : ChangeSpec := { name := "frontRight", fn := fun _ => fun
  | [d1, d2, d3, d4] => { results := [.lit (.bool false)], args := [d1, d2, d3, d4] }
  | _ => none }
def FrontRightWrongFalsely : Prop := frontRightRow.holds Try.pinned (OpenSpec.ofChange frontRightWrong)

/- THE SECOND FORM. 'bulk': how many values and letters a reading holds, each counted each time it is reached (what is shared counts as often as it is met; a slice's spare places count too). A statement '..UptoSaid' is the law's where the arguments, and the package variables that the reading takes, are together of bulk at most 1048576: NARROWER than '..Said'. Prove '..Said' where nothing that the law and all that it calls make is longer than what came in: it says more and counts as full. Else prove '..UptoSaid'. A law counts once. -/
mutual
def uptoBulk {H : Type} : DataW H → Nat
  | .lit (.string bytes) => bytes.length + 1
  | .lit _ => 1
  | .nil => 1
  | .ptr d => uptoBulk d + 1
  | .slice elems spare => uptoBulkAll elems + uptoBulkAll spare + 1
  | .agg parts => uptoBulkAll parts + 1
  | .iface _ d => uptoBulk d + 1
  | .map entries => uptoBulkEntries entries + 1
  | .held _ => 1
def uptoBulkAll {H : Type} : List (DataW H) → Nat
  | [] => 0
  | d :: r => uptoBulk d + uptoBulkAll r
def uptoBulkEntries {H : Type} : List (Lit × DataW H) → Nat
  | [] => 0
  | x :: r => uptoBulkEntry x + uptoBulkEntries r
def uptoBulkEntry {H : Type} : Lit × DataW H → Nat
  | (.string bytes, d) => bytes.length + uptoBulk d + 1
  | (_, d) => uptoBulk d + 1
 end
def uptoSmall : (H : Type) → List (DataW H) → Bool := fun _ ds => decide (uptoBulkAll ds ≤ 1048576)
def OpenSpec.upto (s : _root_.Go.ChangeSpec) : _root_.Go.OpenSpec := { _root_.Go.OpenSpec.ofChange s with cond := some uptoSmall }

/-- 'backwashlaw03.ChainLowest', WHERE WHAT IT READS IS OF BULK AT MOST 1048576: true; the input reads as it did. -/
def chainLowestUptoRow : OpenClaim := { program := "ytfpmejbgmgdedaa", sum := "df31e37a612e8ccc9ad66d092849801019efe2b36b6e040acb69b2c736d59a5e", func := "backwash/backwashlaw03.ChainLowest", spec := "chainLowest", inPlace := ["slices.overlaps[backwash/api.Time]"], unfollowed := true, recurses := true, apart := false, narrowed := true }
def ChainLowestUptoSaid : Prop := chainLowestUptoRow.holds Try.pinned (OpenSpec.upto chainLowestSpec)

/-- 'backwashlaw03.ChainOrder', WHERE WHAT IT READS IS OF BULK AT MOST 1048576: true; the input reads as it did. -/
def chainOrderUptoRow : OpenClaim := { program := "ytfpmejbgmgdedaa", sum := "df31e37a612e8ccc9ad66d092849801019efe2b36b6e040acb69b2c736d59a5e", func := "backwash/backwashlaw03.ChainOrder", spec := "chainOrder", inPlace := ["slices.overlaps[backwash/api.Time]"], unfollowed := true, recurses := true, apart := false, narrowed := true }
def ChainOrderUptoSaid : Prop := chainOrderUptoRow.holds Try.pinned (OpenSpec.upto chainOrderSpec)

/-- 'backwashlaw03.ChainRight', WHERE WHAT IT READS IS OF BULK AT MOST 1048576: true; the input reads as it did. -/
def chainRightUptoRow : OpenClaim := { program := "ytfpmejbgmgdedaa", sum := "df31e37a612e8ccc9ad66d092849801019efe2b36b6e040acb69b2c736d59a5e", func := "backwash/backwashlaw03.ChainRight", spec := "chainRight", inPlace := ["slices.overlaps[backwash/api.Time]"], unfollowed := true, recurses := true, apart := false, narrowed := true }
def ChainRightUptoSaid : Prop := chainRightUptoRow.holds Try.pinned (OpenSpec.upto chainRightSpec)

/-- 'backwashlaw04.FrontBack', WHERE WHAT IT READS IS OF BULK AT MOST 1048576: true; the input reads as it did. -/
def frontBackUptoRow : OpenClaim := { program := "ytfpmejbgmgdedaa", sum := "df31e37a612e8ccc9ad66d092849801019efe2b36b6e040acb69b2c736d59a5e", func := "backwash/backwashlaw04.FrontBack", spec := "frontBack", inPlace := ["slices.overlaps[backwash/api.Count]", "slices.overlaps[backwash/api.Time]"], unfollowed := true, recurses := true, apart := false, narrowed := true }
def FrontBackUptoSaid : Prop := frontBackUptoRow.holds Try.pinned (OpenSpec.upto frontBackSpec)

/-- 'backwashlaw04.FrontLowest', WHERE WHAT IT READS IS OF BULK AT MOST 1048576: true; the input reads as it did. -/
def frontLowestUptoRow : OpenClaim := { program := "ytfpmejbgmgdedaa", sum := "df31e37a612e8ccc9ad66d092849801019efe2b36b6e040acb69b2c736d59a5e", func := "backwash/backwashlaw04.FrontLowest", spec := "frontLowest", inPlace := ["slices.overlaps[backwash/api.Count]", "slices.overlaps[backwash/api.Time]"], unfollowed := true, recurses := true, apart := false, narrowed := true }
def FrontLowestUptoSaid : Prop := frontLowestUptoRow.holds Try.pinned (OpenSpec.upto frontLowestSpec)

/-- 'backwashlaw04.FrontRight', WHERE WHAT IT READS IS OF BULK AT MOST 1048576: true; the input reads as it did. -/
def frontRightUptoRow : OpenClaim := { program := "ytfpmejbgmgdedaa", sum := "df31e37a612e8ccc9ad66d092849801019efe2b36b6e040acb69b2c736d59a5e", func := "backwash/backwashlaw04.FrontRight", spec := "frontRight", inPlace := ["slices.overlaps[backwash/api.Count]", "slices.overlaps[backwash/api.Time]"], unfollowed := true, recurses := true, apart := false, narrowed := true }
def FrontRightUptoSaid : Prop := frontRightUptoRow.holds Try.pinned (OpenSpec.upto frontRightSpec)

end Rows
end Go.Proofs.Ytfpmejbgmgdedaa

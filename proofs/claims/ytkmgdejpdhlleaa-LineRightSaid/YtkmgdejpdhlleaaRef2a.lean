/- Steps: the reference. -/
import Derived.Test.YtkmgdejpdhlleaaRef1
import Derived.Test.YtkmgdejpdhlleaaHop4
import Derived.Test.YtkmgdejpdhlleaaApp
import Derived.Test.YtkmgdejpdhlleaaHopLaw2
import Derived.Test.YtkmgdejpdhlleaaRef1f
namespace Go.Proofs.Ytkmgdejpdhlleaa
set_option linter.unusedSimpArgs false
set_option linter.unusedVariables false
set_option maxRecDepth 100000
open Go.RowKit

/-- Pairs of numbers as cells. -/
def prs (o v : Nat → Int) : Nat → List Value
  | 0 => []
  | n + 1 => prs o v n ++ [.int .i64 (o n), .int .i64 (v n)]
/-- Which coordinate a step's place keeps; what it adds. -/
def ptO (h : Hp) (i : Nat) : Int := if (i : Int) < h.k then i else -1
def ptV (h : Hp) (i : Nat) : Int := atV h i

def PartsPost (h : Hp) (w : World) (r : Ending) (w' : World) : Prop :=
  if hopB h then ∃ g cap, r = .returned (.tuple #[.slice (some ⟨g, 0, none⟩) (h.k + h.l).toNat cap, .bool true]) ∧ Ext w w' ∧
      w'.ownsRow w.heap.size 187 2 (.slice (some ⟨g, 0, none⟩) (h.k + h.l).toNat cap) (h.k + h.l).toNat (prs (ptO h) (ptV h) (h.k + h.l).toNat)
  else r = .returned (.tuple #[.slice none 0 0, .bool false]) ∧ Ext w w'
theorem PartsPost.no {h : Hp} {w w' : World} {r : Ending} (hb : hopB h = false) (hr : r = .returned (.tuple #[.slice none 0 0, .bool false])) (hx : Ext w w') : PartsPost h w r w' := by
  unfold PartsPost
  rw [hb, if_neg (by simp)]
  exact ⟨hr, hx⟩

end Go.Proofs.Ytkmgdejpdhlleaa

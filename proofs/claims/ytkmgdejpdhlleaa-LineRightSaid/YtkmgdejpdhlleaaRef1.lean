/- Timestamps: the reference's functions. -/
import Derived.Test.YtkmgdejpdhlleaaTs1
import Derived.Test.YtkmgdejpdhlleaaApp
namespace Go.Proofs.Ytkmgdejpdhlleaa
set_option linter.unusedSimpArgs false
set_option linter.unusedVariables false
set_option maxRecDepth 100000
open Go.RowKit

/-- Numbers as cells. -/
def ints (l : List Int) : List Value := l.map (Value.int .i64)
/-- The coordinates of the first k places. -/
def pre (t : Tm) : Nat → List Int
  | 0 => []
  | k + 1 => pre t k ++ (if (k : Int) < t.d then [t.at k] else [])
def ListPost (t : Tm) (w : World) (r : Ending) (w' : World) : Prop :=
  if rightB t then ∃ g cap, r = .returned (.tuple #[.slice (some ⟨g, 0, none⟩) t.d.toNat cap, .bool true]) ∧ Ext w w' ∧
      w'.ownsRow w.heap.size 3 1 (.slice (some ⟨g, 0, none⟩) t.d.toNat cap) t.d.toNat (ints (pre t 4))
  else r = .returned (.tuple #[.slice none 0 0, .bool false]) ∧ Ext w w'

theorem ListPost.no {t : Tm} {w w' : World} {r : Ending} {k : Nat} (hk : k < 4) (h : okAt t.d (t.at k) k = false) (hr : r = .returned (.tuple #[.slice none 0 0, .bool false])) (hx : Ext w w') : ListPost t w r w' := by
  unfold ListPost
  rw [if_neg (by rw [rightB_false _ _ _ _ _ k hk h]; simp)]
  exact ⟨hr, hx⟩

end Go.Proofs.Ytkmgdejpdhlleaa

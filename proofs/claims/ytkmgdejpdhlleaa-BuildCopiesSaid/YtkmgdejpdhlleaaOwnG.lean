/- Rows of the call's own: carried from world to world. No program in sight. -/
import Derived.Test.YtkmgdejpdhlleaaSl
namespace Go.Proofs.Ytkmgdejpdhlleaa
set_option linter.unusedSimpArgs false
set_option linter.unusedVariables false
set_option maxRecDepth 100000
open Go.RowKit

theorem ext_get_new (w : World) (x : Inc) (g : Nat) (hg : w.heap.size ≤ g) : (ext w x).heap[g]? = x.hs[g - w.heap.size]? := by
  rw [heap_ext, Array.getElem?_append_right hg]
  simp
/-- A row of the call's own lies in the new blocks: whatever became of the old ones. -/
theorem own_swap {W1 W2 : World} {x z : Inc} {b b' : Nat} {e : TypeId} {k n : Nat} {v : Value} {xs : List Value} (h : (ext W1 x).ownsRow b e k v n xs) (hs : W1.heap.size = W2.heap.size) (hb : W1.heap.size ≤ b) (hb' : b' ≤ b) (hz : z = x ∨ ∃ y, z = x.add y) :
    (ext W2 z).ownsRow b' e k v n xs := by
  obtain ⟨h1, h2⟩ := h
  refine ⟨h1, ?_⟩
  rcases h2 with h2 | ⟨g, cap, cur, hv, hg, hh, r⟩
  · exact .inl h2
  · refine .inr ⟨g, cap, cur, hv, by omega, ?_, r⟩
    rw [ext_get_new _ _ _ (by omega)] at hh ⊢
    rw [← hs]
    rcases hz with rfl | ⟨y, rfl⟩
    · exact hh
    · have hl := (List.getElem?_eq_some_iff.1 hh).1
      simp only [Inc.add]
      rw [List.getElem?_append_left hl, hh]
theorem own_apart {w1 w2 : World} {b1 b2 : Nat} {e1 e2 : TypeId} {k1 n1 k2 n2 : Nat} {v u : Value} {xs ys : List Value} (h1 : w1.ownsRow b1 e1 k1 v n1 xs) (h2 : w2.ownsRow b2 e2 k2 u n2 ys) (h : w1.heap.size ≤ b2 ∨ w2.heap.size ≤ b1) :
    v.ownBlock = none ∨ v.ownBlock ≠ u.ownBlock := by
  cases hv : v.ownBlock with
  | none => exact .inl rfl
  | some g =>
    refine .inr fun he => ?_
    have l1 := h1.lt g hv
    have l2 := h2.lt g he.symm
    omega
theorem own_set {w : World} {b : Nat} {e : TypeId} {k n : Nat} {v : Value} {xs : List Value} (h : w.ownsRow b e k v n xs) (p : Addr) (hp : p.block < b) (u : Value) : (w.setCell p u).ownsRow b e k v n xs := by
  refine ownsRow_setCell_other h (fun he => ?_) u
  have := h.lt _ he
  omega
end Go.Proofs.Ytkmgdejpdhlleaa

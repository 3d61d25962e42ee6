/- Slices, own rows, new rows, append. -/
import Derived.Test.YtkmgdejpdhlleaaMem
import Derived.OwnWalk
import Derived.Deep.AppendLies
import Derived.Deep.RegionLaw
import Derived.Maps.AppendAt
namespace Go.Proofs.Ytkmgdejpdhlleaa
set_option linter.unusedSimpArgs false
set_option linter.unusedVariables false
set_option maxRecDepth 100000
open Go.RowKit

section
variable {P : Program} {ops : Array Oper} {rest : List Oper} {o : Oper} {a : Act} {Q : Exit → Act → World → Prop}

end
section
variable {P : Program} {ops : Array Oper} {rest : List Oper} {o : Oper} {a : Act} {Q : Exit → Act → World → Prop}

end
/-- 'v' is a slice of 'n' elements of 'k' cells each, and its cells are 'cs'. -/
def Rd (w : World) (k n : Nat) (v : Value) (cs : List Value) : Prop :=
  cs.length = n * k ∧ ∃ a cap, v = .slice a n cap ∧ (0 < n → ∃ b off, a = some ⟨b, off, none⟩ ∧ ∀ i u, cs[i]? = some u → w.cell? ⟨b, off + i, none⟩ = some u)
theorem Rd.len {w : World} {k n : Nat} {v : Value} {cs : List Value} (h : Rd w k n v cs) : cs.length = n * k := h.1
theorem Rd.form {w : World} {k n : Nat} {v : Value} {cs : List Value} (h : Rd w k n v cs) : ∃ a cap, v = .slice a n cap := by
  obtain ⟨_, a, cap, hv, _⟩ := h
  exact ⟨a, cap, hv⟩
theorem Rd.of_ext {w w' : World} {k n : Nat} {v : Value} {cs : List Value} (h : Rd w k n v cs) (hx : Ext w w') : Rd w' k n v cs := by
  obtain ⟨h1, a, cap, hv, h2⟩ := h
  obtain ⟨x, rfl⟩ := hx
  refine ⟨h1, a, cap, hv, fun hn => ?_⟩
  obtain ⟨b, off, ha, hc⟩ := h2 hn
  refine ⟨b, off, ha, fun i u hu => ?_⟩
  have := hc i u hu
  rw [cell_ext_a _ _ _ (World.block_lt_of_cell? _ _ this), this]
theorem Rd.nil (w : World) (k : Nat) (a : Option Addr) (cap : Nat) : Rd w k 0 (.slice a 0 cap) [] := ⟨by simp, a, cap, rfl, fun h => absurd h (Nat.lt_irrefl 0)⟩
/-- The cells of a slice that is not empty. -/
theorem Rd.cells {w : World} {k n : Nat} {a : Option Addr} {cap : Nat} {cs : List Value} (h : Rd w k n (.slice a n cap) cs) (hn : 0 < n) : ∃ b off, a = some ⟨b, off, none⟩ ∧ ∀ i u, cs[i]? = some u → w.cell? ⟨b, off + i, none⟩ = some u := by
  obtain ⟨_, a', cap', hv, h2⟩ := h
  obtain ⟨rfl, _, rfl⟩ := Value.slice.inj hv
  exact h2 hn
/-- A row of the call's own reads. -/
theorem own_rd {w : World} {b : Nat} {e : TypeId} {k n : Nat} {v : Value} {cs : List Value} (h : w.ownsRow b e k v n cs) : Rd w k n v cs := by
  obtain ⟨h1, h2⟩ := id h
  rcases h2 with ⟨rfl, rfl⟩ | ⟨g, cap, cur, rfl, hg, _⟩
  · obtain rfl : cs = [] := by simpa using h1
    exact Rd.nil _ _ _ _
  · refine ⟨h1, _, _, rfl, fun _ => ⟨g, 0, rfl, fun i u hu => ?_⟩⟩
    have := World.ownsRow.cells h (g := g) rfl i u hu
    rwa [show (⟨g, 0, none⟩ : Addr).add i = ⟨g, 0 + i, none⟩ by unfold Addr.add; split <;> simp_all] at this
/-- The tail of a slice. -/
theorem Rd.tail {w : World} {k n : Nat} {b off cap : Nat} {cs : List Value} (h : Rd w k (n + 1) (.slice (some ⟨b, off, none⟩) (n + 1) cap) cs) (a : Option Addr) (cap' : Nat) (ha : 0 < n → a = some ⟨b, off + k, none⟩) : Rd w k n (.slice a n cap') (cs.drop k) := by
  have hl := h.len
  obtain ⟨b', off', hb, hc⟩ := h.cells (by omega)
  obtain ⟨rfl, rfl⟩ : b = b' ∧ off = off' := by simpa using hb
  refine ⟨by rw [List.length_drop, hl, Nat.succ_mul]; omega, a, cap', rfl, fun hn => ⟨b, off + k, ha hn, fun i u hu => ?_⟩⟩
  rw [List.getElem?_drop] at hu
  have := hc _ _ hu
  rwa [show off + (k + i) = off + k + i by omega] at this
/-- A slice of numbers. -/
def Ri (w : World) (k : IntKind) (v : Value) (xs : List Int) : Prop := Rd w 1 xs.length v (xs.map (Value.int k))
theorem Ri.of_ext {w w' : World} {k : IntKind} {v : Value} {xs : List Int} (h : Ri w k v xs) (hx : Ext w w') : Ri w' k v xs := Rd.of_ext h hx
theorem Ri.cell {w : World} {k : IntKind} {b off n cap : Nat} {xs : List Int} (h : Ri w k (.slice (some ⟨b, off, none⟩) n cap) xs) (i : Nat) (hi : i < xs.length) : w.cell? ⟨b, off + i, none⟩ = some (.int k xs[i]) := by
  obtain ⟨a, cap', hv⟩ := Rd.form h
  obtain ⟨rfl, rfl, rfl⟩ := Value.slice.inj hv
  obtain ⟨b', off', hb, hc⟩ := Rd.cells h (by omega)
  obtain ⟨rfl, rfl⟩ : b = b' ∧ off = off' := by simpa using hb
  exact hc i _ (by simp [hi])
theorem Ri.form {w : World} {k : IntKind} {v : Value} {xs : List Int} (h : Ri w k v xs) : ∃ a cap, v = .slice a xs.length cap ∧ (0 < xs.length → ∃ b off, a = some ⟨b, off, none⟩) := by
  obtain ⟨a, cap, rfl⟩ := Rd.form h
  exact ⟨a, cap, rfl, fun hn => by obtain ⟨b, off, h1, _⟩ := Rd.cells h hn; exact ⟨b, off, h1⟩⟩

section
variable {P : Program} {ops : Array Oper} {rest : List Oper} {o : Oper} {a : Act} {Q : Exit → Act → World → Prop}
end
theorem ext_get_new (w : World) (x : Inc) (g : Nat) (hg : w.heap.size ≤ g) : (ext w x).heap[g]? = x.hs[g - w.heap.size]? := by
  rw [heap_ext, Array.getElem?_append_right hg]
  simp
/-- The block 'g' is one of the new ones, and its first cells are 'cs'. -/
class InNew (N : Nat) (x : Inc) (g : Nat) (cs : outParam (List Value)) : Prop where
  low : N ≤ g
  out : ∃ (cur : Array Value) (t : TypeId), x.hs[g - N]? = some (.cells cur t (0, 0)) ∧ ∃ n, cur.toList.take n = cs
instance inNew_add (N : Nat) (x y : Inc) (g : Nat) (cs : List Value) [h : InNew N x g cs] : InNew N (x.add y) g cs := ⟨h.low, by
  obtain ⟨cur, t, h1, h2⟩ := h.out
  refine ⟨cur, t, ?_, h2⟩
  have hl := (List.getElem?_eq_some_iff.1 h1).1
  simp only [Inc.add]
  rw [List.getElem?_append_left hl, h1]⟩
instance inNew_later (N : Nat) (x y : Inc) (g : Nat) (cs : List Value) [h : InNew (N + x.hs.length) y g cs] : InNew N (x.add y) g cs := ⟨by have := h.low; omega, by
  obtain ⟨cur, t, h1, h2⟩ := h.out
  refine ⟨cur, t, ?_, h2⟩
  have := h.low
  simp only [Inc.add]
  rw [List.getElem?_append_right (by omega), show g - N - x.hs.length = g - (N + x.hs.length) by omega, h1]⟩
@[go_sem] theorem cell_new (w : World) (x : Inc) (g i : Nat) {N : Nat} {cs : List Value} [hs : SizeIs w N] [h : InNew N x g cs] (hi : i < cs.length) : (ext w x).cell? ⟨g, i, none⟩ = some cs[i] := by
  obtain ⟨cur, t, h1, n, h2⟩ := h.out
  have hb : (ext w x).heap[g]? = some (.cells cur t (0, 0)) := by
    rw [ext_get_new _ _ _ (by rw [hs.out]; exact h.low), hs.out, h1]
  rw [cell_of_row _ g i cur t (0, 0) hb]
  subst h2
  simp only [List.length_take, Array.length_toList] at hi
  simp only [List.getElem_take, Array.getElem_toList]
  exact Array.getElem?_eq_getElem (by omega)
/-- The form of a row of the call's own that is not empty. -/
theorem own_form {w : World} {b : Nat} {e : TypeId} {k n c : Nat} {a : Option Addr} {cs : List Value} (h : w.ownsRow b e k (.slice a n c) n cs) (hn : 0 < n) : ∃ g, a = some ⟨g, 0, none⟩ ∧ b ≤ g := by
  obtain ⟨g, cap, hv, h1, _⟩ := h.form hn
  obtain ⟨rfl, _, _⟩ := Value.slice.inj hv
  exact ⟨g, rfl, h1⟩

/-- A slice's block is none below 'B'. -/
def New (B : Nat) : Value → Prop
  | .slice (some a) _ _ => B ≤ a.block
  | _ => True
theorem New.low {B B' : Nat} {v : Value} (h : New B v) (hb : B' ≤ B) : New B' v := by
  cases v with
  | slice a n c =>
    cases a with
    | none => trivial
    | some a => exact Nat.le_trans hb h
  | _ => trivial
section
variable {P : Program} {ops : Array Oper} {rest : List Oper} {o : Oper} {a : Act} {Q : Exit → Act → World → Prop}
end
section
variable {P : Program}
variable {ops : Array Oper} {rest : List Oper} {o : Oper} {a : Act} {Q : Exit → Act → World → Prop}
end
end Go.Proofs.Ytkmgdejpdhlleaa

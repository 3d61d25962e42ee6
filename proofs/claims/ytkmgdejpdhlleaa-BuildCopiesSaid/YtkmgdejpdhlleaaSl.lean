/- What a slice reads: its cells. No program in sight. -/
import Derived.Test.YtkmgdejpdhlleaaOwnF
import Derived.Test.YtkmgdejpdhlleaaQuiet
namespace Go.Proofs.Ytkmgdejpdhlleaa
set_option linter.unusedSimpArgs false
set_option linter.unusedVariables false
set_option maxRecDepth 100000
open Go.RowKit

/-- 'v' is a slice of 'n' elements of 'k' cells each, and its cells are 'cs'. -/
def Rd (w : World) (k n : Nat) (v : Value) (cs : List Value) : Prop :=
  cs.length = n * k ∧ ∃ a cap, v = .slice a n cap ∧ (0 < n → ∃ b off, a = some ⟨b, off, none⟩ ∧ ∀ i u, cs[i]? = some u → w.cell? ⟨b, off + i, none⟩ = some u)
theorem Rd.len {w : World} {k n : Nat} {v : Value} {cs : List Value} (h : Rd w k n v cs) : cs.length = n * k := h.1
theorem Rd.form {w : World} {k n : Nat} {v : Value} {cs : List Value} (h : Rd w k n v cs) : ∃ a cap, v = .slice a n cap := by
  obtain ⟨_, a, cap, hv, _⟩ := h
  exact ⟨a, cap, hv⟩
theorem Rd.of_ext {w w' : World} {k n : Nat} {v : Value} {cs : List Value} (h : Rd w k n v cs) (hx : Ext w w') : Rd w' k n v cs := by
  obtain ⟨h1, a, cap, hv, h2⟩ := h
  obtain ⟨x, rfl⟩ := hx
  refine ⟨h1, a, cap, hv, fun hn => ?_⟩
  obtain ⟨b, off, ha, hc⟩ := h2 hn
  refine ⟨b, off, ha, fun i u hu => ?_⟩
  have := hc i u hu
  rw [cell_ext_a _ _ _ (World.block_lt_of_cell? _ _ this), this]
theorem Rd.nil (w : World) (k : Nat) (a : Option Addr) (cap : Nat) : Rd w k 0 (.slice a 0 cap) [] := ⟨by simp, a, cap, rfl, fun h => absurd h (Nat.lt_irrefl 0)⟩
/-- The cells of a slice that is not empty. -/
theorem Rd.cells {w : World} {k n : Nat} {a : Option Addr} {cap : Nat} {cs : List Value} (h : Rd w k n (.slice a n cap) cs) (hn : 0 < n) : ∃ b off, a = some ⟨b, off, none⟩ ∧ ∀ i u, cs[i]? = some u → w.cell? ⟨b, off + i, none⟩ = some u := by
  obtain ⟨_, a', cap', hv, h2⟩ := h
  obtain ⟨rfl, _, rfl⟩ := Value.slice.inj hv
  exact h2 hn
/-- A row of the call's own reads. -/
theorem own_rd {w : World} {b : Nat} {e : TypeId} {k n : Nat} {v : Value} {cs : List Value} (h : w.ownsRow b e k v n cs) : Rd w k n v cs := by
  obtain ⟨h1, h2⟩ := id h
  rcases h2 with ⟨rfl, rfl⟩ | ⟨g, cap, cur, rfl, hg, _⟩
  · obtain rfl : cs = [] := by simpa using h1
    exact Rd.nil _ _ _ _
  · refine ⟨h1, _, _, rfl, fun _ => ⟨g, 0, rfl, fun i u hu => ?_⟩⟩
    have := World.ownsRow.cells h (g := g) rfl i u hu
    rwa [show (⟨g, 0, none⟩ : Addr).add i = ⟨g, 0 + i, none⟩ by unfold Addr.add; split <;> simp_all] at this
/-- The tail of a slice. -/
theorem Rd.tail {w : World} {k n : Nat} {b off cap : Nat} {cs : List Value} (h : Rd w k (n + 1) (.slice (some ⟨b, off, none⟩) (n + 1) cap) cs) (a : Option Addr) (cap' : Nat) (ha : 0 < n → a = some ⟨b, off + k, none⟩) : Rd w k n (.slice a n cap') (cs.drop k) := by
  have hl := h.len
  obtain ⟨b', off', hb, hc⟩ := h.cells (by omega)
  obtain ⟨rfl, rfl⟩ : b = b' ∧ off = off' := by simpa using hb
  refine ⟨by rw [List.length_drop, hl, Nat.succ_mul]; omega, a, cap', rfl, fun hn => ⟨b, off + k, ha hn, fun i u hu => ?_⟩⟩
  rw [List.getElem?_drop] at hu
  have := hc _ _ hu
  rwa [show off + (k + i) = off + k + i by omega] at this
/-- A slice of numbers. -/
def Ri (w : World) (k : IntKind) (v : Value) (xs : List Int) : Prop := Rd w 1 xs.length v (xs.map (Value.int k))
theorem Ri.of_ext {w w' : World} {k : IntKind} {v : Value} {xs : List Int} (h : Ri w k v xs) (hx : Ext w w') : Ri w' k v xs := Rd.of_ext h hx
theorem Ri.cell {w : World} {k : IntKind} {b off n cap : Nat} {xs : List Int} (h : Ri w k (.slice (some ⟨b, off, none⟩) n cap) xs) (i : Nat) (hi : i < xs.length) : w.cell? ⟨b, off + i, none⟩ = some (.int k xs[i]) := by
  obtain ⟨a, cap', hv⟩ := Rd.form h
  obtain ⟨rfl, rfl, rfl⟩ := Value.slice.inj hv
  obtain ⟨b', off', hb, hc⟩ := Rd.cells h (by omega)
  obtain ⟨rfl, rfl⟩ : b = b' ∧ off = off' := by simpa using hb
  exact hc i _ (by simp [hi])
theorem Ri.form {w : World} {k : IntKind} {v : Value} {xs : List Int} (h : Ri w k v xs) : ∃ a cap, v = .slice a xs.length cap ∧ (0 < xs.length → ∃ b off, a = some ⟨b, off, none⟩) := by
  obtain ⟨a, cap, rfl⟩ := Rd.form h
  exact ⟨a, cap, rfl, fun hn => by obtain ⟨b, off, h1, _⟩ := Rd.cells h hn; exact ⟨b, off, h1⟩⟩

section
variable {P : Program} {ops : Array Oper} {rest : List Oper} {o : Oper} {a : Act} {Q : Exit → Act → World → Prop}
/-- 'append(v, x...)' onto a row of the call's own, of a slice that reads. -/
theorem wpList_pushS (hgd : o.guard = none) (s x : Operand) (t : TypeId)
    (ho : o.op = .call { callee := .builtin .append, args := #[s, x], argTypes := #[t, t] })
    (e : TypeId) (z : Value) (size bytes : Nat) (ht : P.underlying t = some (.slice e)) (hi : (P.info? e).map (fun i => (i.zero, i.size, i.bytes)) = some (some z, size, bytes))
    (hzs : z.cells.size = size) (hsz : 0 < size)
    (w0 : World) (w : World) (hx0 : Ext w0 w) (base : Nat) (v : Value) (n : Nat) (xs : List Value) (hown : w.ownsRow base e size v n xs)
    (m : Nat) (u : Value) (cs : List Value) (hs : a.eval s = v) (hx : a.eval x = u) (hr : Rd w size m u cs) (hone : ∀ u ∈ cs, u.oneCell' = true)
    (hm : 0 < m) (h63 : n + m ≤ maxLen) (hbytes : (n + m) * bytes ≤ 140737488355328) (hb : base ≤ w.heap.size) (hb0 : w0.heap.size ≤ base)
    (k : ∀ g cap y, (ext w0 y).ownsRow base e size (.slice (some ⟨g, 0, none⟩) (n + m) cap) (n + m) (xs ++ cs) → w.grownBy (ext w0 y) v.ownBlock → (v.ownBlock = some g ∨ w.heap.size = g) → wpList P ops Q rest (a.put o.dst (.slice (some ⟨g, 0, none⟩) (n + m) cap)) (ext w0 y)) :
    wpList P ops Q (o :: rest) a w := by
  obtain ⟨i0, hi0, hz0, hz1, hz2⟩ := info_parts hi
  obtain ⟨ad, c, rfl⟩ := hr.form
  obtain ⟨b, off, rfl, hc⟩ := hr.cells hm
  refine wpList_plain hgd fun K hK => ?_
  refine wp_append_lies _ s x t ho base e i0 z size bytes ht hi0 hz0 hz1 hz2 hzs hsz v n xs hs hown ⟨b, off, none⟩ m c cs hx hr.len ?_ hone hm h63 hbytes hb _ rfl ?_
  · intro j u hu
    rw [show (⟨b, off, none⟩ : Addr).add j = ⟨b, off + j, none⟩ by unfold Addr.add; split <;> simp_all]
    exact hc j u hu
  · intro g cap w1 hown1 hgrow hat _
    obtain ⟨y, rfl⟩ : Ext w0 w1 := hx0.grown hgrow (fun k hk => by
      have := (hown.lt k hk).1
      omega)
    exact hK _ _ (k g cap y hown1 hgrow (hat.imp id Eq.symm))
end
end Go.Proofs.Ytkmgdejpdhlleaa

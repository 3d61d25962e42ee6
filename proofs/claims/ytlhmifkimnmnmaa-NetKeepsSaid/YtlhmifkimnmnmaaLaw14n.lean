/- law 14: own rows of numbers. -/
import Derived.Test.YtlhmifkimnmnmaaLaw14a
import Derived.Test.YtlhmifkimnmnmaaNtQ
namespace Go.Proofs.Ytlhmifkimnmnmaa
set_option linter.unusedSimpArgs false
set_option linter.unusedVariables false
open Go.RowKit

theorem ints_one (l : List Int) : ∀ u ∈ l.map (Value.int .i64), u.oneCell' = true := fun u hu => by
  obtain ⟨n, -, rfl⟩ := List.mem_map.1 hu
  rfl
theorem info_i64i : (Try.prog.info? 3).map (fun i => (i.zero, i.size, i.bytes)) = some (some (.int .i64 0), 1, 8) := by kernel_rfl
/-- An own row of numbers. -/
def Nums (w0 w : World) (l : List Int) (v : Value) : Prop := ∃ a c, v = .slice a l.length c ∧ w.ownsRow w0.heap.size 3 1 (.slice a l.length c) l.length (l.map (Value.int .i64))
theorem Nums.on {w0 w w' : World} {l : List Int} {v : Value} (h : Nums w0 w l v) (hx : Ext w w') : Nums w0 w' l v := by
  obtain ⟨a, c, rfl, ho⟩ := h
  exact ⟨a, c, rfl, own_of_extY ho hx⟩
theorem Nums.nil (w0 w : World) : Nums w0 w [] (.slice none 0 0) := ⟨none, 0, rfl, World.ownsRow_nil _ _ _ _⟩
theorem NumsAt {w0 w : World} {l : List Int} {a : Option Addr} {c q : Nat} {y : Int} (h : Nums w0 w l (.slice a l.length c)) (hy : l[q]? = some y) : ∃ b off, a = some ⟨b, off, none⟩ ∧ w.cell? ⟨b, off + q, none⟩ = some (.int .i64 y) := by
  obtain ⟨a', c', he, ho⟩ := h
  rw [← he] at ho
  obtain ⟨b, off, rfl, hc⟩ := (own_rd ho).cells (by have := (List.getElem?_eq_some_iff.1 hy).1; omega)
  exact ⟨b, off, rfl, hc q _ (by rw [List.getElem?_map, hy]; rfl)⟩
end Go.Proofs.Ytlhmifkimnmnmaa

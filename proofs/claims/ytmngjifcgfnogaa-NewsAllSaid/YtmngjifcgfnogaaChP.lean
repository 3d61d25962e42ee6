/- Rows of timestamps: append of one. -/
import Derived.Test.YtmngjifcgfnogaaChH
namespace Go.Proofs.Ytmngjifcgfnogaa
set_option linter.unusedSimpArgs false
set_option linter.unusedVariables false
set_option maxRecDepth 100000
open Go.RowKit

/-- 'append(v, x)' of one element. -/
theorem push_row {ops : Array Oper} {rest : List Oper} {o : Oper} {a : Act} {Q : Exit → Act → World → Prop} (hgd : o.guard = none) (s x : Operand) (ho : o.op = .call { callee := .builtin .append, args := #[s, x], argTypes := #[38, 38] })
    (w0 w1 : World) (l : List Tm) (v : Value) (h : Row w0 w0.heap.size l v w1) (b c : Nat) (hs : a.eval s = v) (hx : a.eval x = .slice (some ⟨b, 0, none⟩) 1 c) (hb : b = w1.heap.size) (hl : l.length ≤ 1073741823) (it : Tm)
    (k : ∀ v' w', Row w0 w0.heap.size (l ++ [it]) v' w' → wpList Try.prog ops Q rest (a.put o.dst v') w') :
    wpList Try.prog ops Q (o :: rest) a (w1.alloc (.cells #[.int .i64 it.d, .int .i64 it.a, .int .i64 it.b, .int .i64 it.c, .int .i64 it.e] 47)) := by
  obtain ⟨⟨i, rfl⟩, a', c', rfl, hown⟩ := h
  refine wpList_pushF hgd s x 38 ho 47 (.agg #[.int .i64 0, .int .i64 0, .int .i64 0, .int .i64 0, .int .i64 0]) 5 40 Try.underlying38 info_item' rfl (by decide) w0 i w0.heap.size _ l.length (tms l) hown b 1 c #[.int .i64 it.d, .int .i64 it.a, .int .i64 it.b, .int .i64 it.c, .int .i64 it.e] hs hx rfl (by simp [Value.oneCell']) (by decide) hb (by unfold maxLen; omega) (by omega) (by simp) (Nat.le_refl _) ?_
  intro g cap y hown1 hgr hat
  refine k _ _ ⟨⟨y, rfl⟩, some ⟨g, 0, none⟩, cap, ?_, ?_⟩
  · rw [List.length_append]; rfl
  · rw [List.length_append, tms_append]
    exact hown1
theorem Row.nil (w : World) (b : Nat) : Row w b [] (.slice none 0 0) w := ⟨Ext.refl w, none, 0, rfl, World.ownsRow_nil _ _ _ _⟩
end Go.Proofs.Ytmngjifcgfnogaa

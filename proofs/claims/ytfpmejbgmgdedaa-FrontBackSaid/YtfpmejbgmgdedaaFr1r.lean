/- Rows of api.Count as values that read; own rows; append. -/
import Derived.Test.YtfpmejbgmgdedaaFr1
namespace Go.Proofs.Ytfpmejbgmgdedaa.Fr
set_option linter.unusedSimpArgs false
set_option linter.unusedVariables false
open Go.RowKit

def Row (w0 : World) (base : Nat) (l : List Ct) (v : Value) (w : World) : Prop :=
  Ext w0 w ∧ ∃ a c, v = .slice a l.length c ∧ w.ownsRow base 48 6 (.slice a l.length c) l.length (cts l)
theorem Row.of_grows {w0 w w' : World} {base : Nat} {v : Value} {l : List Ct} {e : Ending} (hx : Ext w0 w) (hv : ∀ k, v.ownBlock = some k → w0.heap.size ≤ k) (h : Grows w base v l e w') : ∃ v', e = .returned v' ∧ Row w0 base l v' w' := by
  obtain ⟨b, c, rfl, hg, ho, -⟩ := h
  exact ⟨_, rfl, hx.grown hg hv, b, c, rfl, ho⟩
/-- The value reads as these timestamps. -/
def Rb (w : World) (l : List Ct) (v : Value) : Prop := ∃ a c, v = .slice a l.length c ∧ Rd w 6 l.length (.slice a l.length c) (cts l)
theorem Rb.on {w w' : World} {l : List Ct} {v : Value} (h : Rb w l v) (hx : Ext w w') : Rb w' l v := by
  obtain ⟨a, c, rfl, h⟩ := h
  exact ⟨a, c, rfl, h.of_ext hx⟩
theorem Rb.nil (w : World) : Rb w [] (.slice none 0 0) := ⟨none, 0, rfl, Rd.nil _ _ _ _⟩
theorem Row.rb {w0 w : World} {b : Nat} {l : List Ct} {v : Value} (h : Row w0 b l v w) : Ext w0 w ∧ Rb w l v := by
  obtain ⟨hx, a, c, rfl, ho⟩ := h
  exact ⟨hx, a, c, rfl, own_rd ho⟩
theorem Row.on {w0 w w' : World} {base : Nat} {l : List Ct} {v : Value} (h : Row w0 base l v w) (hx : Ext w w') : Row w0 base l v w' := by
  obtain ⟨h1, a, c, rfl, ho⟩ := h
  exact ⟨h1.trans hx, a, c, rfl, own_of_extY ho hx⟩
theorem Row.up {w0 w1 w : World} {base : Nat} {l : List Ct} {v : Value} (h : Row w1 base l v w) (hx : Ext w0 w1) : Row w0 base l v w := ⟨hx.trans h.1, h.2⟩
theorem Row.low {w0 w : World} {b b' : Nat} {l : List Ct} {v : Value} (h : Row w0 b l v w) (hb : b' ≤ b) : Row w0 b' l v w := by
  obtain ⟨hx, a, c, rfl, ho⟩ := h
  exact ⟨hx, a, c, rfl, own_base ho hb⟩
theorem Row.from0 {w0 w1 w : World} {l : List Ct} {v : Value} (h : Row w1 w1.heap.size l v w) (hx : Ext w0 w1) : Row w0 w0.heap.size l v w := (h.up hx).low ((Ext.grows hx none).size)
section
variable {ops : Array Oper} {rest : List Oper} {o : Oper} {a : Act} {Q : Exit → Act → World → Prop}
theorem app_row {w : World} (hgd : o.guard = none) (s x : Operand) (ho : o.op = .call { callee := .builtin .append, args := #[s, x], argTypes := #[37, 37] })
    (w0 : World) (base : Nat) (l m : List Ct) (v u : Value) (hs : a.eval s = v) (hx : a.eval x = u) (hr : Row w0 base l v w) (hu : Rb w m u) (hb0 : w0.heap.size ≤ base) (hb : base ≤ w.heap.size) (hl : l.length + m.length ≤ 1073741823)
    (k : ∀ v' w', Row w0 base (l ++ m) v' w' → wpList Try.prog ops Q rest (a.put o.dst v') w') :
    wpList Try.prog ops Q (o :: rest) a w := by
  obtain ⟨a0, c0, rfl, hu⟩ := hu
  obtain ⟨hx0, a1, c1, rfl, hown⟩ := hr
  refine wpList_app hgd s x 37 ho 48 (.agg #[.int .i64 0, .int .i64 0, .int .i64 0, .int .i64 0, .int .i64 0, .int .i64 0]) 6 48 Try.underlying37 info_item' rfl (by decide) w0 hx0 base _ l.length (cts l) hown m.length _ (cts m) hs hx hu (cts_one m) (by unfold maxLen; omega) (by omega) hb hb0 ?_
  intro b c y hown1 hgr hat
  rw [← cts_append, ← List.length_append] at hown1
  rw [← List.length_append]
  exact k _ _ ⟨⟨y, rfl⟩, b, c, rfl, hown1⟩
/-- 'append(T{}, x...)'. -/
theorem app_new (w1 : World) (hgd : o.guard = none) (s x : Operand) (ho : o.op = .call { callee := .builtin .append, args := #[s, x], argTypes := #[37, 37] })
    (b : Nat) (hs : a.eval s = .slice (some ⟨b, 0, none⟩) 0 0) (hb : b = w1.heap.size) (l : List Ct) (u : Value) (hx : a.eval x = u) (hr : Rb w1 l u) (hl : l.length ≤ 1073741823)
    (k : ∀ v' w', Row w1 w1.heap.size l v' w' → wpList Try.prog ops Q rest (a.put o.dst v') w') :
    wpList Try.prog ops Q (o :: rest) a (w1.alloc (.cells #[] 48)) := by
  subst hb
  have hx0 : Ext w1 (w1.alloc (.cells #[] 48)) := (Ext.refl w1).alloc _
  exact app_row hgd s x ho w1 w1.heap.size [] l _ u hs hx ⟨hx0, _, 0, rfl, World.ownsRow_made w1 #[] 0 (Nat.le_refl _) (by decide) (by simp)⟩ (hr.on hx0) (Nat.le_refl _) (by rw [World.size_alloc]; omega) (by simpa using hl) k
end
/-- 'append(v, x)' of one element. -/
theorem push_row {ops : Array Oper} {rest : List Oper} {o : Oper} {a : Act} {Q : Exit → Act → World → Prop} (hgd : o.guard = none) (s x : Operand) (ho : o.op = .call { callee := .builtin .append, args := #[s, x], argTypes := #[37, 37] })
    (w0 w1 : World) (l : List Ct) (v : Value) (h : Row w0 w0.heap.size l v w1) (b c : Nat) (hs : a.eval s = v) (hx : a.eval x = .slice (some ⟨b, 0, none⟩) 1 c) (hb : b = w1.heap.size) (hl : l.length ≤ 1073741823) (it : Ct)
    (k : ∀ v' w', Row w0 w0.heap.size (l ++ [it]) v' w' → wpList Try.prog ops Q rest (a.put o.dst v') w') :
    wpList Try.prog ops Q (o :: rest) a (w1.alloc (.cells #[.int .i64 it.d, .int .i64 it.a, .int .i64 it.b, .int .i64 it.c, .int .i64 it.e, .int .i64 it.n] 48)) := by
  obtain ⟨⟨i, rfl⟩, a', c', rfl, hown⟩ := h
  refine wpList_pushF hgd s x 37 ho 48 (.agg #[.int .i64 0, .int .i64 0, .int .i64 0, .int .i64 0, .int .i64 0, .int .i64 0]) 6 48 Try.underlying37 info_item' rfl (by decide) w0 i w0.heap.size _ l.length (cts l) hown b 1 c #[.int .i64 it.d, .int .i64 it.a, .int .i64 it.b, .int .i64 it.c, .int .i64 it.e, .int .i64 it.n] hs hx rfl (by simp [Value.oneCell']) (by decide) hb (by unfold maxLen; omega) (by omega) (by simp) (Nat.le_refl _) ?_
  intro g cap y hown1 hgr hat
  refine k _ _ ⟨⟨y, rfl⟩, some ⟨g, 0, none⟩, cap, ?_, ?_⟩
  · rw [List.length_append]; rfl
  · rw [List.length_append, cts_append]
    exact hown1
theorem Row.nil (w : World) (b : Nat) : Row w b [] (.slice none 0 0) w := ⟨Ext.refl w, none, 0, rfl, World.ownsRow_nil _ _ _ _⟩
end Go.Proofs.Ytfpmejbgmgdedaa.Fr

/- Fair: the reference's Make. -/
import Derived.Test.YtgjolablgcnlmaaFa9
namespace Go.Proofs.Ytgjolablgcnlmaa
set_option linter.unusedSimpArgs false
set_option linter.unusedVariables false
open Go.RowKit

/-- Two rows of numbers, each its own block. -/
def Two (w0 w : World) (ov : Value) (n : Nat) (xs : List Int) (lv : Value) (m : Nat) (ys : List Int) : Prop :=
  Ext w0 w ∧ w.ownsRow w0.heap.size 3 1 ov n (vs xs) ∧ w.ownsRow w0.heap.size 3 1 lv m (vs ys) ∧ ∀ k, ov.ownBlock = some k → lv.ownBlock ≠ some k
theorem Two.symm {w0 w : World} {ov lv : Value} {n m : Nat} {xs ys : List Int} (h : Two w0 w ov n xs lv m ys) : Two w0 w lv m ys ov n xs := ⟨h.1, h.2.2.1, h.2.1, fun k h1 h2 => h.2.2.2 k h2 h1⟩
theorem Two.on {w0 w w' : World} {ov lv : Value} {n m : Nat} {xs ys : List Int} (h : Two w0 w ov n xs lv m ys) (hx : Ext w w') : Two w0 w' ov n xs lv m ys := by
  obtain ⟨h1, h2, h3, h4⟩ := h
  obtain ⟨z, rfl⟩ := hx
  exact ⟨h1.ext z, own_ext h2 z, own_ext h3 z, h4⟩
theorem Two.cell {w0 w : World} {ov : Value} {n m g c : Nat} {xs ys : List Int} (h : Two w0 w ov n xs (.slice (some ⟨g, 0, none⟩) m c) m ys) {i : Nat} {x : Int} (hx : ys[i]? = some x) : w.cell? ⟨g, i, none⟩ = some (.int .i64 x) ∧ w.frozen? ⟨g, i, none⟩ = false := by
  have hl : (vs ys).length = m * 1 := h.2.2.1.1
  have hi := (List.getElem?_eq_some_iff.1 hx).1
  refine ⟨?_, h.2.2.1.frozenAt i⟩
  rw [h.2.2.1.cellAt i (by rw [← hl]; unfold vs; rw [List.length_map]; exact hi)]
  unfold vs
  rw [List.getElem?_map, hx]
  rfl
theorem Two.set {w0 w : World} {ov : Value} {n m g c : Nat} {xs ys : List Int} (h : Two w0 w ov n xs (.slice (some ⟨g, 0, none⟩) m c) m ys) (i : Nat) (x : Int) : Two w0 (w.setCell ⟨g, i, none⟩ (.int .i64 x)) ov n xs (.slice (some ⟨g, 0, none⟩) m c) m (ys.set i x) := by
  obtain ⟨h1, h2, h3, h4⟩ := h
  obtain ⟨k1, k2⟩ := h3.stored i (.int .i64 x)
  refine ⟨h1.setCell (h3.lt g rfl).1 _, h2.kept k2 ?_, ?_, h4⟩
  · exact .inr (fun e => h4 g e rfl)
  · unfold vs at k1 ⊢
    rw [List.map_set]
    exact k1
section
variable {ops : Array Oper} {rest : List Oper} {o : Oper} {a : Act} {Q : Exit → Act → World → Prop}
theorem push_two (hgd : o.guard = none) (s x : Operand) (ho : o.op = .call { callee := .builtin .append, args := #[s, x], argTypes := #[38, 38] })
    (w0 : World) (i : Inc) (v u : Value) (n m : Nat) (xs ys : List Int) (z : Int) (h : Two w0 (ext w0 i) v n xs u m ys) (b c : Nat) (hs : a.eval s = v) (hx : a.eval x = .slice (some ⟨b, 0, none⟩) 1 c) (hb : b = (ext w0 i).heap.size) (hn : n ≤ 1000000)
    (k : ∀ g cap y, Two w0 (ext w0 y) (.slice (some ⟨g, 0, none⟩) (n + 1) cap) (n + 1) (xs ++ [z]) u m ys → wpList Try.prog ops Q rest (a.put o.dst (.slice (some ⟨g, 0, none⟩) (n + 1) cap)) (ext w0 y)) :
    wpList Try.prog ops Q (o :: rest) a ((ext w0 i).alloc (.cells #[.int .i64 z] 3)) := by
  obtain ⟨-, h2, h3, h4⟩ := h
  refine wpList_pushF hgd s x 38 ho 3 (.int .i64 0) 1 8 Try.underlying38 info_int' rfl (by decide) w0 i w0.heap.size _ n (vs xs) h2 b 1 c #[.int .i64 z] hs hx rfl (by simp [Value.oneCell']) (by decide) hb (by unfold maxLen; omega) (by omega) (by simp) (Nat.le_refl _) ?_
  intro g cap y hown hgr hat
  refine k g cap y ⟨(Ext.refl w0).ext y, ?_, h3.kept hgr ?_, fun q hq hu => ?_⟩
  · have := hown
    unfold vs at this ⊢
    rw [List.map_append]
    exact this
  · cases hv : u.ownBlock with
    | none => exact .inl rfl
    | some q => exact .inr (fun e => h4 q e.symm hv)
  · obtain rfl : g = q := by simpa [Value.ownBlock] using hq
    rcases hat with e | e
    · exact h4 g e hu
    · have := (h3.lt g hu).2
      omega
end
theorem iota_len (n : Nat) : (iota n).length = n := by unfold iota; simp
theorem iota_succ (n : Nat) : iota (n + 1) = iota n ++ [(n : Int)] := by unfold iota; rw [List.range_succ, List.map_append]; rfl
theorem refMake_bad (T M seed : Int) (w : World) (h : mayMake T M = false) :
    Calls Try.prog 23 #[.int .i64 T, .int .i64 M, .int .u64 seed] w fun e w' => e = .returned (.tuple #[.slice none 0 0, .int .i64 1]) ∧ Ext w w' := by
  unfold mayMake at h
  obtain ⟨b1, f1⟩ : ∃ b, decide (T < 1) = b := ⟨_, rfl⟩
  obtain ⟨b2, f2⟩ : ∃ b, decide (1024 < T) = b := ⟨_, rfl⟩
  obtain ⟨b3, f3⟩ : ∃ b, decide (M < 0) = b := ⟨_, rfl⟩
  obtain ⟨b4, f4⟩ : ∃ b, decide (65536 < M) = b := ⟨_, rfl⟩
  have hb : (b1 || (b2 || (b3 || b4))) = true := by
    subst f1 f2 f3 f4
    rw [Bool.eq_false_iff] at h
    apply Classical.byContradiction
    intro hn
    simp only [Bool.or_eq_true, decide_eq_true_eq, not_or] at hn
    apply h
    simp only [Bool.and_eq_true, decide_eq_true_eq]
    omega
  clear h
  cases b1 <;> cases b2 <;> cases b3 <;> cases b4 <;> first | (exfalso; simp at hb; done) | skip
  all_goals
    clear hb
    go_enter Try.func23, Try.ntmps23
    go_wp2
    go_returns
    exact ⟨rett rfl rfl, by (repeat' (first | with_reducible exact Ext.refl _ | with_reducible refine Ext.ext ?_ _ | with_reducible refine Ext.alloc ?_ _ | with_reducible refine Ext.drew ?_ | with_reducible refine Ext.drewN ?_ _ | with_reducible assumption))⟩
end Go.Proofs.Ytgjolablgcnlmaa

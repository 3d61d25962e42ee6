/- Credit: a box that holds a lane. -/
import Derived.Test.YtgjolablgcnlmaaCr8
import Derived.Test.YtgjolablgcnlmaaApp
import Derived.Deep.DeepCutAuto
namespace Go.Proofs.Ytgjolablgcnlmaa
set_option linter.unusedSimpArgs false
set_option linter.unusedVariables false
open Go.RowKit

/-- A box of the call's own that holds a lane. -/
def Bx (w0 w : World) (p : Nat) (a1 : Option Addr) (c1 : Nat) (a2 : Option Addr) (c2 : Nat) (l : Ln) : Prop :=
  Ext w0 w ∧ w0.heap.size ≤ p ∧ w.heap[p]? = some (.cells #[.int .i64 l.s, .int .i64 l.m, .slice a1 l.way.length c1, .slice a2 l.waits.length c2, .int .i64 l.b] 24 (0, 0)) ∧ LaneV w a1 c1 a2 c2 l
theorem Bx.on {w0 w w' : World} {p : Nat} {a1 : Option Addr} {c1 : Nat} {a2 : Option Addr} {c2 : Nat} {l : Ln} (h : Bx w0 w p a1 c1 a2 c2 l) (hx : Ext w w') : Bx w0 w' p a1 c1 a2 c2 l := by
  obtain ⟨h1, h2, h3, h4⟩ := h
  refine ⟨h1.trans hx, h2, ?_, h4.of_ext hx⟩
  obtain ⟨z, rfl⟩ := hx
  rw [ext_get _ _ _ (Array.getElem?_eq_some_iff.1 h3).1, h3]
theorem Bx.cells {w0 w : World} {p : Nat} {a1 : Option Addr} {c1 : Nat} {a2 : Option Addr} {c2 : Nat} {l : Ln} (h : Bx w0 w p a1 c1 a2 c2 l) :
    w.cell? ⟨p, 0, none⟩ = some (.int .i64 l.s) ∧ w.cell? ⟨p, 1, none⟩ = some (.int .i64 l.m) ∧ w.cell? ⟨p, 2, none⟩ = some (.slice a1 l.way.length c1) ∧ w.cell? ⟨p, 3, none⟩ = some (.slice a2 l.waits.length c2) ∧ w.cell? ⟨p, 4, none⟩ = some (.int .i64 l.b) ∧ p < w.heap.size ∧ ∀ i, w.frozen? ⟨p, i, none⟩ = false := by
  obtain ⟨h1, h2, h3, h4⟩ := h
  refine ⟨?_, ?_, ?_, ?_, ?_, (Array.getElem?_eq_some_iff.1 h3).1, fun i => frozen_of_row _ _ _ _ _ h3⟩ <;> (rw [cell_of_row _ _ _ _ _ (0, 0) h3]; rfl)
theorem Bx.made {w0 w : World} (hx : Ext w0 w) {a1 : Option Addr} {c1 : Nat} {a2 : Option Addr} {c2 : Nat} {s m b : Int} {xs ys : List Int} (h : LaneV w a1 c1 a2 c2 ⟨s, m, b, xs, ys⟩) : Bx w0 (w.alloc (.cells #[.int .i64 s, .int .i64 m, .slice a1 xs.length c1, .slice a2 ys.length c2, .int .i64 b] 24)) w.heap.size a1 c1 a2 c2 ⟨s, m, b, xs, ys⟩ := by
  refine ⟨hx.alloc _, ?_, heap_alloc_new w _, h.of_ext ((Ext.refl _).alloc _)⟩
  obtain ⟨z, rfl⟩ := hx
  simp

theorem new_bad (n : Int) (h : ¬ (1 ≤ n ∧ n ≤ 4096)) : Hid (∀ w, Calls Try.prog 9 #[.int .i64 n] w fun e w' => e = .returned (.tuple #[.agg #[.int .i64 0, .int .i64 0, .slice none 0 0, .slice none 0 0, .int .i64 0], .int .i64 1]) ∧ Ext w w') := Lib.hid (fun w => by
  have := crNew_any n w
  simpa only [h, if_false] using this)
theorem new_good (n : Int) (h : 1 ≤ n ∧ n ≤ 4096) : Hid (∀ w, Calls Try.prog 9 #[.int .i64 n] w fun e w' => e = .returned (.tuple #[.agg #[.int .i64 n, .int .i64 n, .slice none 0 0, .slice none 0 0, .int .i64 0], .int .i64 0]) ∧ Ext w w') := Lib.hid (fun w => by
  have := crNew_any n w
  simpa only [h, and_self, if_true] using this)
theorem same_nil (s m b : Int) : Hid (∀ w, Calls Try.prog 10 #[.agg #[.int .i64 s, .int .i64 m, .slice none 0 0, .slice none 0 0, .int .i64 b], .agg #[.int .i64 s, .int .i64 m, .slice none 0 0, .slice none 0 0, .int .i64 b]] w fun e w' => e = .returned (.bool true) ∧ Ext w w') :=
  Lib.hid (fun w => crSame_yes ⟨s, m, b, [], []⟩ none none none none 0 0 0 0 w (laneV_empty _ _ _ _) (laneV_empty _ _ _ _) (Nat.zero_le _) (Nat.zero_le _))
end Go.Proofs.Ytgjolablgcnlmaa

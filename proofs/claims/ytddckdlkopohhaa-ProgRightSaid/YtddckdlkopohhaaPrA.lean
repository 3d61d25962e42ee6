/- The laws of layer 7: what they share; awake. -/
import Derived.Test.YtddckdlkopohhaaPr9
namespace Go.Proofs.Ytddckdlkopohhaa
set_option linter.unusedSimpArgs false
set_option linter.unusedVariables false
open Go.RowKit

theorem own_cell {w : World} {b : Nat} {e : TypeId} {k n n' c g : Nat} {cs : List Value} (h : w.ownsRow b e k (.slice (some ⟨g, 0, none⟩) n c) n' cs) (i : Nat) (u : Value) (hu : cs[i]? = some u) : (∀ z, (ext w z).cell? ⟨g, i, none⟩ = some u) ∧ w.cell? ⟨g, i, none⟩ = some u := by
  have h1 := h.cells (g := g) rfl i u hu
  rw [show (⟨g, 0, none⟩ : Addr).add i = ⟨g, 0 + i, none⟩ by unfold Addr.add; split <;> simp_all, Nat.zero_add] at h1
  exact ⟨fun z => by rw [cell_ext_a _ _ _ (World.block_lt_of_cell? _ _ h1), h1], h1⟩
theorem keep_cell {w w' : World} {b i : Nat} {u : Value} (h : w.cell? ⟨b, i, none⟩ = some u) (hx : Ext w w') : (∀ z, (ext w' z).cell? ⟨b, i, none⟩ = some u) ∧ w'.cell? ⟨b, i, none⟩ = some u := by
  obtain ⟨x, rfl⟩ := hx
  have h1 : (ext w x).cell? ⟨b, i, none⟩ = some u := by rw [cell_ext_a _ _ _ (World.block_lt_of_cell? _ _ h), h]
  exact ⟨fun z => by rw [cell_ext_a _ _ _ (World.block_lt_of_cell? _ _ h1), h1], h1⟩
/-- One record comes. -/
theorem RunEnd.one {w w' : World} {x y b : Int} {e : Ending} (h : RunEnd w ([(x, y)], b) e w') : ∃ g c, e = .returned (.tuple #[.slice (some ⟨g, 0, none⟩) 1 c, .int .i64 b]) ∧ Ext w w' ∧ (∀ z, (ext w' z).cell? ⟨g, 0, none⟩ = some (.int .i64 x)) ∧ (∀ z, (ext w' z).cell? ⟨g, 1, none⟩ = some (.int .i64 y)) ∧ w'.cell? ⟨g, 0, none⟩ = some (.int .i64 x) ∧ w'.cell? ⟨g, 1, none⟩ = some (.int .i64 y) := by
  obtain ⟨a, c, rfl, hx, hown⟩ := h
  obtain ⟨g, rfl, -⟩ := own_form hown (by simp)
  have c0 := own_cell hown 0 (.int .i64 x) rfl
  have c1 := own_cell hown 1 (.int .i64 y) rfl
  exact ⟨g, c, rfl, hx, c0.1, c1.1, c0.2, c1.2⟩
/-- A literal reads. -/
theorem rd_lit (w : World) (k n c g : Nat) (cs : Array Value) (e : TypeId) (hn : cs.size = n * k) (hg : g = w.heap.size) : Rd (w.alloc (.cells cs e)) k n (.slice (some ⟨g, 0, none⟩) n c) cs.toList := by
  subst hg
  refine ⟨by simpa using hn, _, _, rfl, fun _ => ⟨_, 0, rfl, fun i u hu => ?_⟩⟩
  rw [cell_of_row _ _ _ cs e (0, 0) (heap_alloc_new w _), Nat.zero_add]
  simpa using hu
theorem runP_awake : runP [(2, 0), (3, 0), (1, 1), (4, 0), (16, 0)] 3 4 = ([(3, 5)], 0) := by rfl
theorem awake_any (w : World) : Calls Try.prog 8 #[] w fun e w' => e = .returned (.bool true) ∧ Ext w w' := by
  have R := Lib.hid (fun v w h => run_any [(2, 0), (3, 0), (1, 1), (4, 0), (16, 0)] v 3 4 w h (by decide) (by decide) (by decide) (by decide))
  rw [runP_awake] at R
  go_enter Try.func8, Try.ntmps8
  go_wp2_with (go_at_call 9; refine (R.out _ _ (rd_lit _ 2 5 _ _ _ _ (by rfl) (by simp))).mono ?_; rintro e w' ⟨a, c, rfl, hx, hown⟩; obtain ⟨g, rfl, -⟩ := own_form hown (by decide); have c0 := (own_cell hown 0 _ rfl).2; have c1 := (own_cell hown 1 _ rfl).2; have HX := Lib.hid hx; clear hx hown)
  go_returns
  exact ⟨retb rfl rfl, ((Ext.refl _).alloc _).trans HX.out⟩
theorem recs_take : ∀ (ps : List (Int × Int)) (m : Nat), recs (ps.take m) = (recs ps).take (m * 2)
  | [], m => by simp [recs]
  | a :: l, 0 => by simp [recs]
  | a :: l, m + 1 => by
    rw [show (m + 1) * 2 = m * 2 + 1 + 1 by omega]
    simp only [List.take_succ_cons, recs, recs_take l m]
theorem rd_take {w : World} {k n m c : Nat} {a : Option Addr} {cs : List Value} (h : Rd w k n (.slice a n c) cs) (hm : m ≤ n) : Rd w k m (.slice a m c) (cs.take (m * k)) := by
  refine ⟨by rw [List.length_take, h.len]; exact Nat.min_eq_left (Nat.mul_le_mul_right k hm), a, c, rfl, fun h0 => ?_⟩
  obtain ⟨b, off, rfl, hc⟩ := h.cells (by omega)
  exact ⟨b, off, rfl, fun i u hu => hc i u (by rw [List.getElem?_take] at hu; split at hu; exact hu; cases hu)⟩
end Go.Proofs.Ytddckdlkopohhaa

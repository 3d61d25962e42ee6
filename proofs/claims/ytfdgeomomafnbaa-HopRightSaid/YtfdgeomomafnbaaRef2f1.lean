/- Contract of backwashref02.Of at 1 parts. -/
import Derived.Test.YtfdgeomomafnbaaRef2c
namespace Go.Proofs.Ytfdgeomomafnbaa
set_option linter.unusedSimpArgs false
set_option linter.unusedVariables false
open Go.RowKit

set_option maxHeartbeats 2000000 in
theorem of2_0_1 (f v0 : Int) (g cap : Nat) (w : World) (hg : g < w.heap.size) (c0 : w.cell? ⟨g, 0, none⟩ = some (.int .i64 (-1))) (e0 : w.cell? ⟨g, 1, none⟩ = some (.int .i64 v0)) :
    Calls Try.prog 50 #[.int .i64 f, .slice (some ⟨g, 0, none⟩) 1 cap] w fun r w' => r = .returned (.tuple #[hv (madeR ⟨f, 0, 1, 0, 0, 0, 0, v0, 0, 0, 0⟩).1, .bool (madeR ⟨f, 0, 1, 0, 0, 0, 0, v0, 0, 0, 0⟩).2]) ∧ Ext w w' := by
  haveI : LtSz g w.heap.size := ⟨hg⟩
  cases hb : hopB ⟨f, 0, 1, 0, 0, 0, 0, v0, 0, 0, 0⟩
  · rw [show madeR ⟨f, 0, 1, 0, 0, 0, 0, v0, 0, 0, 0⟩ = (hz, false) by simp [madeR, hb]]
    have P1 := parts_no' hb
    simp only at P1
    clear hb
    go_enter Try.func50, Try.ntmps50
    go_wp2
    refine wp_loop_rounds 2 ?_
    iterate 1 (rw [rounds_succ]; go_wp2; go_region; go_wp2)
    rw [rounds_succ]
    go_wp2_with (go_at_call 33; (with_reducible refine (P1.out _).mono ?_); rintro r w' ⟨rfl, ⟨z1, rfl⟩⟩)
    go_returns
    exact ⟨rett rfl rfl, by (repeat' (first | with_reducible exact Ext.refl _ | with_reducible refine Ext.ext ?_ _ | with_reducible refine Ext.alloc ?_ _ | with_reducible refine Ext.drew ?_ | with_reducible refine Ext.drewN ?_ _ | with_reducible assumption))⟩
  · rw [show madeR ⟨f, 0, 1, 0, 0, 0, 0, v0, 0, 0, 0⟩ = (⟨f, 0, 1, 0, 0, 0, 0, v0, 0, 0, 0⟩, true) by simp [madeR, hb]]
    have P1 := parts_yes' (n := 1) hb rfl
    simp only at P1
    clear hb
    go_enter Try.func50, Try.ntmps50
    go_wp2
    refine wp_loop_rounds 2 ?_
    iterate 1 (rw [rounds_succ]; go_wp2; go_region; go_wp2)
    rw [rounds_succ]
    go_wp2_with (go_at_call 33; (with_reducible refine (P1.out _).mono ?_); rintro r w' ⟨g1, c1, z1, rfl, rfl, -⟩)
    go_returns
    exact ⟨rett rfl rfl, by (repeat' (first | with_reducible exact Ext.refl _ | with_reducible refine Ext.ext ?_ _ | with_reducible refine Ext.alloc ?_ _ | with_reducible refine Ext.drew ?_ | with_reducible refine Ext.drewN ?_ _ | with_reducible assumption))⟩
set_option maxHeartbeats 2000000 in
theorem of2_1_1 (f v0 : Int) (g cap : Nat) (w : World) (hg : g < w.heap.size) (c0 : w.cell? ⟨g, 0, none⟩ = some (.int .i64 (0))) (e0 : w.cell? ⟨g, 1, none⟩ = some (.int .i64 v0)) :
    Calls Try.prog 50 #[.int .i64 f, .slice (some ⟨g, 0, none⟩) 1 cap] w fun r w' => r = .returned (.tuple #[hv (madeR ⟨f, 1, 0, v0, 0, 0, 0, 0, 0, 0, 0⟩).1, .bool (madeR ⟨f, 1, 0, v0, 0, 0, 0, 0, 0, 0, 0⟩).2]) ∧ Ext w w' := by
  haveI : LtSz g w.heap.size := ⟨hg⟩
  cases hb : hopB ⟨f, 1, 0, v0, 0, 0, 0, 0, 0, 0, 0⟩
  · rw [show madeR ⟨f, 1, 0, v0, 0, 0, 0, 0, 0, 0, 0⟩ = (hz, false) by simp [madeR, hb]]
    have P1 := parts_no' hb
    simp only at P1
    clear hb
    go_enter Try.func50, Try.ntmps50
    go_wp2
    refine wp_loop_rounds 2 ?_
    iterate 1 (rw [rounds_succ]; go_wp2; go_region; go_wp2)
    rw [rounds_succ]
    go_wp2_with (go_at_call 33; (with_reducible refine (P1.out _).mono ?_); rintro r w' ⟨rfl, ⟨z1, rfl⟩⟩)
    go_returns
    exact ⟨rett rfl rfl, by (repeat' (first | with_reducible exact Ext.refl _ | with_reducible refine Ext.ext ?_ _ | with_reducible refine Ext.alloc ?_ _ | with_reducible refine Ext.drew ?_ | with_reducible refine Ext.drewN ?_ _ | with_reducible assumption))⟩
  · rw [show madeR ⟨f, 1, 0, v0, 0, 0, 0, 0, 0, 0, 0⟩ = (⟨f, 1, 0, v0, 0, 0, 0, 0, 0, 0, 0⟩, true) by simp [madeR, hb]]
    have P1 := parts_yes' (n := 1) hb rfl
    simp only at P1
    clear hb
    go_enter Try.func50, Try.ntmps50
    go_wp2
    refine wp_loop_rounds 2 ?_
    iterate 1 (rw [rounds_succ]; go_wp2; go_region; go_wp2)
    rw [rounds_succ]
    go_wp2_with (go_at_call 33; (with_reducible refine (P1.out _).mono ?_); rintro r w' ⟨g1, c1, z1, rfl, rfl, -⟩)
    go_returns
    exact ⟨rett rfl rfl, by (repeat' (first | with_reducible exact Ext.refl _ | with_reducible refine Ext.ext ?_ _ | with_reducible refine Ext.alloc ?_ _ | with_reducible refine Ext.drew ?_ | with_reducible refine Ext.drewN ?_ _ | with_reducible assumption))⟩
end Go.Proofs.Ytfdgeomomafnbaa

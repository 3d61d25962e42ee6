/- route.Split at the one input of law13's awake. -/
import Derived.Test.YtfdgeomomafnbaaRoute1
import Derived.Test.YtfdgeomomafnbaaOwnF
import Derived.Deep.RegionHeld3
import Derived.Deep.RegionLaw
import Derived.Deep.AppendLies
namespace Go.Proofs.Ytfdgeomomafnbaa
set_option linter.unusedSimpArgs false
set_option linter.unusedVariables false
open Go.RowKit

theorem info_item : (Try.prog.info? 62).map (fun i => (i.zero, i.size, i.bytes)) = some (some (.agg #[.int .i64 0, .int .i64 0, .int .i64 0]), 3, 24) := by kernel_rfl

set_option maxHeartbeats 1000000 in
theorem split_awake (w : World) (h cap : Nat) (hc0 : w.cell? ⟨h, 0, none⟩ = some (.int .i64 (-1))) (hc1 : w.cell? ⟨h, 1, none⟩ = some (.int .i64 0)) (hc2 : w.cell? ⟨h, 2, none⟩ = some (.int .i64 1)) :
    Calls Try.prog 43 #[.slice (some ⟨h, 0, none⟩) 1 cap, .int .i64 4] w fun e w' => ∃ g c2 g2 c3, e = .returned (.slice (some ⟨g, 0, none⟩) 4 c2) ∧ Ext w w' ∧ w'.cell? ⟨g, 3, none⟩ = some (.slice (some ⟨g2, 0, none⟩) 1 c3) := by
  have hh := World.block_lt_of_cell? w _ hc0
  have hmk : ∀ w, (Instr.makeSlice 57 (.int .i64 4) (.int .i64 4)).run Try.prog w = .ok (.slice (some ⟨w.heap.size, 0, none⟩) 4 4) (w.alloc (.cells #[.slice none 0 0, .slice none 0 0, .slice none 0 0, .slice none 0 0] 63)) := fun _ => by kernel_rfl
  go_enter Try.func43, Try.ntmps43
  go_wp2_with (first | (go_at_call 44; refine (some_any _ _).mono ?_; rintro e w' ⟨rfl, rfl⟩) | (go_at_call 15; refine (worker_in _ _ _ (by decide) (by decide) (by decide) (by decide)).mono ?_; rintro e w' ⟨rfl, rfl⟩))
  refine wp_loop_rounds 2 ?_
  rw [rounds_succ]
  go_wp2_with (first | (go_at_call 44; refine (some_any _ _).mono ?_; rintro e w' ⟨rfl, rfl⟩) | (go_at_call 15; refine (worker_in _ _ _ (by decide) (by decide) (by decide) (by decide)).mono ?_; rintro e w' ⟨rfl, rfl⟩))
  generalize hW : (w.alloc (.cells #[.slice none 0 0, .slice none 0 0, .slice none 0 0, .slice none 0 0] 63)).alloc (.cells #[.int .i64 (-1), .int .i64 0, .int .i64 1] 62) = W
  have e1 : W.cell? ⟨w.heap.size, 3, none⟩ = some (.slice none 0 0) := by subst hW; simp
  have f1 : W.frozen? ⟨w.heap.size, 3, none⟩ = false := by subst hW; simp
  have e2 : W.cell? ⟨w.heap.size + 1, 0, none⟩ = some (.int .i64 (-1)) := by subst hW; simp
  have e3 : W.cell? ⟨w.heap.size + 1, 1, none⟩ = some (.int .i64 0) := by subst hW; simp
  have e4 : W.cell? ⟨w.heap.size + 1, 2, none⟩ = some (.int .i64 1) := by subst hW; simp
  have hs : W.heap.size = w.heap.size + 2 := by subst hW; simp
  have hx : Ext w W := by subst hW; (repeat' (first | with_reducible exact Ext.refl _ | with_reducible refine Ext.ext ?_ _ | with_reducible refine Ext.alloc ?_ _ | with_reducible refine Ext.drew ?_ | with_reducible refine Ext.drewN ?_ _ | with_reducible assumption))
  have HS := Lib.hid hs
  haveI : LtSz w.heap.size W.heap.size := ⟨by omega⟩
  clear hW hs
  obtain ⟨i0, hi0, hz0, hz1, hz2⟩ := info_parts info_item
  go_region_law (refine step_append_lies _ (by rfl) _ _ _ (by rfl) W.heap.size 62 i0 _ 3 24 Try.underlying63 hi0 hz0 hz1 hz2 rfl (by omega) (.slice none 0 0) 0 [] (by rfl) (((World.ownsRow_nil W W.heap.size 62 3).alloc _).drew) ⟨W.heap.size, 0, none⟩ 1 1 [.int .i64 (-1), .int .i64 0, .int .i64 1] (by rfl) (by rfl) (World.news_of_block (cs := #[.int .i64 (-1), .int .i64 0, .int .i64 1]) (t := 62) (fr := (0, 0)) (heap_alloc_new W _)) (by simp [Value.oneCell']) (by omega) (by decide) (by decide) (by simp) (W.heap.size + 1) (by simp) ?_; intro gg cap w1 hown1 hgrow hat hlt; have e5 : w1.cell? ⟨w.heap.size, 3, none⟩ = some (.slice none 0 0) := (hgrow.cell_far _ (by simp; have := HS.out; omega) (by simp [Value.ownBlock])).trans (by simp [go_sem, e1]); have f5 : w1.frozen? ⟨w.heap.size, 3, none⟩ = false := (hgrow.frozen_far _ (by simp; have := HS.out; omega) (by simp [Value.ownBlock])).trans (by simp [go_sem, f1]))
  all_goals
    go_wp2
    rw [rounds_succ]
    go_wp2
    go_returns
    refine ⟨w.heap.size, 4, gg, cap, by simp, ?_, ?_⟩
    · exact Ext.setCell (Ext.grown (((hx.drew).alloc _)) hgrow (fun k hk => by simp [Value.ownBlock] at hk)) (Nat.le_refl _) _
    · exact World.cell?_setCell_same _ _ _ e5
end Go.Proofs.Ytfdgeomomafnbaa

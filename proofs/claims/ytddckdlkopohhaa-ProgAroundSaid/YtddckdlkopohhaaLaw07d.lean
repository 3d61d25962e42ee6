/- The walk of ProgAround. -/
import Derived.Test.YtddckdlkopohhaaPrA
import Derived.Test.YtddckdlkopohhaaApp
namespace Go.Proofs.Ytddckdlkopohhaa
set_option linter.unusedSimpArgs false
set_option linter.unusedVariables false
open Go.RowKit

def dropP : Nat → List (Int × Int)
  | 0 => []
  | j + 1 => dropP j ++ [(3, 0), (13, 0)]
def endP (m : Nat) : List (Int × Int) := dropP m ++ [(14, ((2 * m : Nat) : Int) + 1)]
def aroundP (m : Nat) : List (Int × Int) := dropP m ++ [(14, 0)]
theorem drop_len (j : Nat) : (dropP j).length = 2 * j := by
  induction j with
  | zero => rfl
  | succ j ih => simp only [dropP, List.length_append, ih, List.length_cons, List.length_nil]; omega
theorem drop_in (j : Nat) : ∀ r ∈ dropP j, In64 r.2 := by
  induction j with
  | zero => intro r hr; cases hr
  | succ j ih =>
    intro r hr
    rcases List.mem_append.1 hr with hr | hr
    · exact ih r hr
    · simp only [List.mem_cons, List.not_mem_nil, or_false] at hr
      rcases hr with rfl | rfl <;> decide
theorem end_in (m : Nat) (h : m < 30) : ∀ r ∈ endP m, In64 r.2 := by
  intro r hr
  rcases List.mem_append.1 hr with hr | hr
  · exact drop_in m r hr
  · simp only [List.mem_cons, List.not_mem_nil, or_false] at hr
    subst hr
    unfold In64
    dsimp only
    omega
theorem around_in (m : Nat) : ∀ r ∈ aroundP m, In64 r.2 := by
  intro r hr
  rcases List.mem_append.1 hr with hr | hr
  · exact drop_in m r hr
  · simp only [List.mem_cons, List.not_mem_nil, or_false] at hr
    subst hr
    decide
theorem end_0 (K V : Int) : runP (endP 0) K V = ([], 0) := by kernel_rfl
theorem around_0 (K V : Int) : runP (aroundP 0) K V = ([(K, -9223372036854775804)], 4) := by kernel_rfl
theorem end_1 (K V : Int) : runP (endP 1) K V = ([], 0) := by kernel_rfl
theorem around_1 (K V : Int) : runP (aroundP 1) K V = ([(K, -9223372036854775804)], 4) := by kernel_rfl
theorem end_2 (K V : Int) : runP (endP 2) K V = ([], 0) := by kernel_rfl
theorem around_2 (K V : Int) : runP (aroundP 2) K V = ([(K, -9223372036854775804)], 4) := by kernel_rfl
theorem end_3 (K V : Int) : runP (endP 3) K V = ([], 0) := by kernel_rfl
theorem around_3 (K V : Int) : runP (aroundP 3) K V = ([(K, -9223372036854775804)], 4) := by kernel_rfl
theorem end_4 (K V : Int) : runP (endP 4) K V = ([], 0) := by kernel_rfl
theorem around_4 (K V : Int) : runP (aroundP 4) K V = ([(K, -9223372036854775804)], 4) := by kernel_rfl
theorem end_5 (K V : Int) : runP (endP 5) K V = ([], 0) := by kernel_rfl
theorem around_5 (K V : Int) : runP (aroundP 5) K V = ([(K, -9223372036854775804)], 4) := by kernel_rfl
theorem end_6 (K V : Int) : runP (endP 6) K V = ([], 0) := by kernel_rfl
theorem around_6 (K V : Int) : runP (aroundP 6) K V = ([(K, -9223372036854775804)], 4) := by kernel_rfl
theorem end_7 (K V : Int) : runP (endP 7) K V = ([], 0) := by kernel_rfl
theorem around_7 (K V : Int) : runP (aroundP 7) K V = ([(K, -9223372036854775804)], 4) := by kernel_rfl
theorem end_8 (K V : Int) : runP (endP 8) K V = ([], 0) := by kernel_rfl
theorem around_8 (K V : Int) : runP (aroundP 8) K V = ([(K, -9223372036854775804)], 4) := by kernel_rfl
theorem end_9 (K V : Int) : runP (endP 9) K V = ([], 0) := by kernel_rfl
theorem around_9 (K V : Int) : runP (aroundP 9) K V = ([(K, -9223372036854775804)], 4) := by kernel_rfl
theorem end_10 (K V : Int) : runP (endP 10) K V = ([], 0) := by kernel_rfl
theorem around_10 (K V : Int) : runP (aroundP 10) K V = ([(K, -9223372036854775804)], 4) := by kernel_rfl
theorem end_11 (K V : Int) : runP (endP 11) K V = ([], 0) := by kernel_rfl
theorem around_11 (K V : Int) : runP (aroundP 11) K V = ([(K, -9223372036854775804)], 4) := by kernel_rfl
theorem end_12 (K V : Int) : runP (endP 12) K V = ([], 0) := by kernel_rfl
theorem around_12 (K V : Int) : runP (aroundP 12) K V = ([(K, -9223372036854775804)], 4) := by kernel_rfl
theorem end_13 (K V : Int) : runP (endP 13) K V = ([], 0) := by kernel_rfl
theorem around_13 (K V : Int) : runP (aroundP 13) K V = ([(K, -9223372036854775804)], 4) := by kernel_rfl
theorem end_14 (K V : Int) : runP (endP 14) K V = ([], 0) := by kernel_rfl
theorem around_14 (K V : Int) : runP (aroundP 14) K V = ([(K, -9223372036854775804)], 4) := by kernel_rfl
theorem end_15 (K V : Int) : runP (endP 15) K V = ([], 0) := by kernel_rfl
theorem around_15 (K V : Int) : runP (aroundP 15) K V = ([(K, -9223372036854775804)], 4) := by kernel_rfl
theorem end_16 (K V : Int) : runP (endP 16) K V = ([], 0) := by kernel_rfl
theorem around_16 (K V : Int) : runP (aroundP 16) K V = ([(K, -9223372036854775804)], 4) := by kernel_rfl
theorem end_17 (K V : Int) : runP (endP 17) K V = ([], 0) := by kernel_rfl
theorem around_17 (K V : Int) : runP (aroundP 17) K V = ([(K, -9223372036854775804)], 4) := by kernel_rfl
theorem end_18 (K V : Int) : runP (endP 18) K V = ([], 0) := by kernel_rfl
theorem around_18 (K V : Int) : runP (aroundP 18) K V = ([(K, -9223372036854775804)], 4) := by kernel_rfl
theorem end_19 (K V : Int) : runP (endP 19) K V = ([], 0) := by kernel_rfl
theorem around_19 (K V : Int) : runP (aroundP 19) K V = ([(K, -9223372036854775804)], 4) := by kernel_rfl
theorem end_20 (K V : Int) : runP (endP 20) K V = ([], 0) := by kernel_rfl
theorem around_20 (K V : Int) : runP (aroundP 20) K V = ([(K, -9223372036854775804)], 4) := by kernel_rfl
theorem end_21 (K V : Int) : runP (endP 21) K V = ([], 0) := by kernel_rfl
theorem around_21 (K V : Int) : runP (aroundP 21) K V = ([(K, -9223372036854775804)], 4) := by kernel_rfl
theorem end_22 (K V : Int) : runP (endP 22) K V = ([], 0) := by kernel_rfl
theorem around_22 (K V : Int) : runP (aroundP 22) K V = ([(K, -9223372036854775804)], 4) := by kernel_rfl
theorem end_23 (K V : Int) : runP (endP 23) K V = ([], 0) := by kernel_rfl
theorem around_23 (K V : Int) : runP (aroundP 23) K V = ([(K, -9223372036854775804)], 4) := by kernel_rfl
theorem end_24 (K V : Int) : runP (endP 24) K V = ([], 0) := by kernel_rfl
theorem around_24 (K V : Int) : runP (aroundP 24) K V = ([(K, -9223372036854775804)], 4) := by kernel_rfl
theorem end_25 (K V : Int) : runP (endP 25) K V = ([], 0) := by kernel_rfl
theorem around_25 (K V : Int) : runP (aroundP 25) K V = ([(K, -9223372036854775804)], 4) := by kernel_rfl
theorem end_26 (K V : Int) : runP (endP 26) K V = ([], 0) := by kernel_rfl
theorem around_26 (K V : Int) : runP (aroundP 26) K V = ([(K, -9223372036854775804)], 4) := by kernel_rfl
theorem end_27 (K V : Int) : runP (endP 27) K V = ([], 0) := by kernel_rfl
theorem around_27 (K V : Int) : runP (aroundP 27) K V = ([(K, -9223372036854775804)], 4) := by kernel_rfl
theorem end_28 (K V : Int) : runP (endP 28) K V = ([], 0) := by kernel_rfl
theorem around_28 (K V : Int) : runP (aroundP 28) K V = ([(K, -9223372036854775804)], 4) := by kernel_rfl
theorem end_29 (K V : Int) : runP (endP 29) K V = ([], 0) := by kernel_rfl
theorem around_29 (K V : Int) : runP (aroundP 29) K V = ([(K, -9223372036854775804)], 4) := by kernel_rfl
theorem ends_run (K V : Int) (m : Nat) (h : m < 30) : runP (endP m) K V = ([], 0) ∧ runP (aroundP m) K V = ([(K, -9223372036854775804)], 4) := by
  obtain rfl | rfl | rfl | rfl | rfl | rfl | rfl | rfl | rfl | rfl | rfl | rfl | rfl | rfl | rfl | rfl | rfl | rfl | rfl | rfl | rfl | rfl | rfl | rfl | rfl | rfl | rfl | rfl | rfl | rfl : m = 0 ∨ m = 1 ∨ m = 2 ∨ m = 3 ∨ m = 4 ∨ m = 5 ∨ m = 6 ∨ m = 7 ∨ m = 8 ∨ m = 9 ∨ m = 10 ∨ m = 11 ∨ m = 12 ∨ m = 13 ∨ m = 14 ∨ m = 15 ∨ m = 16 ∨ m = 17 ∨ m = 18 ∨ m = 19 ∨ m = 20 ∨ m = 21 ∨ m = 22 ∨ m = 23 ∨ m = 24 ∨ m = 25 ∨ m = 26 ∨ m = 27 ∨ m = 28 ∨ m = 29 := by omega
  · exact ⟨end_0 K V, around_0 K V⟩
  · exact ⟨end_1 K V, around_1 K V⟩
  · exact ⟨end_2 K V, around_2 K V⟩
  · exact ⟨end_3 K V, around_3 K V⟩
  · exact ⟨end_4 K V, around_4 K V⟩
  · exact ⟨end_5 K V, around_5 K V⟩
  · exact ⟨end_6 K V, around_6 K V⟩
  · exact ⟨end_7 K V, around_7 K V⟩
  · exact ⟨end_8 K V, around_8 K V⟩
  · exact ⟨end_9 K V, around_9 K V⟩
  · exact ⟨end_10 K V, around_10 K V⟩
  · exact ⟨end_11 K V, around_11 K V⟩
  · exact ⟨end_12 K V, around_12 K V⟩
  · exact ⟨end_13 K V, around_13 K V⟩
  · exact ⟨end_14 K V, around_14 K V⟩
  · exact ⟨end_15 K V, around_15 K V⟩
  · exact ⟨end_16 K V, around_16 K V⟩
  · exact ⟨end_17 K V, around_17 K V⟩
  · exact ⟨end_18 K V, around_18 K V⟩
  · exact ⟨end_19 K V, around_19 K V⟩
  · exact ⟨end_20 K V, around_20 K V⟩
  · exact ⟨end_21 K V, around_21 K V⟩
  · exact ⟨end_22 K V, around_22 K V⟩
  · exact ⟨end_23 K V, around_23 K V⟩
  · exact ⟨end_24 K V, around_24 K V⟩
  · exact ⟨end_25 K V, around_25 K V⟩
  · exact ⟨end_26 K V, around_26 K V⟩
  · exact ⟨end_27 K V, around_27 K V⟩
  · exact ⟨end_28 K V, around_28 K V⟩
  · exact ⟨end_29 K V, around_29 K V⟩
theorem info_insr : (Try.prog.info? 33).map (fun i => (i.zero, i.size, i.bytes)) = some (some (.agg #[.int .i64 0, .int .i64 0]), 2, 16) := by kernel_rfl
theorem own_empty (w : World) (b : Nat) (e : TypeId) (k g : Nat) (hg : g = w.heap.size) (hb : b ≤ w.heap.size) : (w.alloc (.cells #[] e)).ownsRow b e k (.slice (some ⟨g, 0, none⟩) 0 0) 0 [] := by
  subst hg
  exact World.ownsRow_made w #[] 0 hb (by decide) (by simp)
theorem recs_one (ps : List (Int × Int)) : ∀ u ∈ recs ps, u.oneCell' = true := by
  induction ps with
  | nil => intro u hu; cases hu
  | cons a l ih =>
    intro u hu
    simp only [recs, List.mem_cons] at hu
    rcases hu with rfl | rfl | hu
    · rfl
    · rfl
    · exact ih u hu
set_option maxHeartbeats 4000000 in
theorem walk_ProgAround (w : World) (n : Int) (hn : 0 ≤ n ∧ n ≤ 255) (K V : Int) (hK : In64 K) (hV : In64 V) :
    Calls Try.prog 6 #[.int .u8 n, .agg #[.int .i64 K, .int .i64 V]] w fun r w' => r = .returned (.bool true) ∧ Ext w w' := by
  have AW := Lib.hid awake_any
  obtain ⟨N, rfl⟩ := Int.eq_ofNat_of_zero_le hn.1
  obtain ⟨m, hm⟩ : ∃ m, m = N % 30 := ⟨_, rfl⟩
  have hm30 : m < 30 := by omega
  obtain ⟨er1, er2⟩ := ends_run K V m hm30
  have RUN1 := Lib.hid (fun v w h => run_any (endP m) v K V w h (by simp only [endP, List.length_append, drop_len, List.length_cons, List.length_nil]; omega) hK hV (end_in m hm30))
  have RUN2 := Lib.hid (fun v w h => run_any (aroundP m) v K V w h (by simp only [aroundP, List.length_append, drop_len, List.length_cons, List.length_nil]; omega) hK hV (around_in m))
  rw [er1] at RUN1
  rw [er2] at RUN2
  have hl1 : (endP m).length = 2 * m + 1 := by simp [endP, drop_len]
  have hl2 : (aroundP m).length = 2 * m + 1 := by simp [aroundP, drop_len]
  rw [hl1] at RUN1
  rw [hl2] at RUN2
  clear hK hV er1 er2 hl1 hl2
  have hn1 := hn.1
  have hn2 := hn.2
  have hc : (N : Int) % 30 = m := by omega
  have hc2 : (N : Int).tmod 30 = m := by rw [Int.tmod_eq_emod_of_nonneg (by omega)]; omega
  have h30 : (m : Int) < 30 := by omega
  clear hm hn
  go_enter Try.func6, Try.ntmps6
  go_wp2_with (first | (go_at_call 8; refine (AW.out _).mono ?_; rintro e w' ⟨rfl, x0, rfl⟩))
  go_loopw [5, 6] (fun v i wr => ∃ j : Nat, j ≤ m ∧ i = .int .i64 j ∧ (∃ z, wr = ext (w.alloc (.cells #[.int .i64 K, .int .i64 V] 24)) z) ∧ wr.ownsRow (w.heap.size + 1) 33 2 v (2 * j) (recs (dropP j))) (fun _ i _ => m - (intOf i).toNat)
  case atStart => exact ⟨0, Nat.zero_le _, rfl, ⟨_, rfl⟩, World.ownsRow_nil _ _ _ _⟩
  case round =>
    obtain ⟨j, hj, rfl, ⟨z, rfl⟩, hown⟩ := hrel
    have HOWN := Lib.hid hown
    by_cases hlt : j < m
    · have i2 : (j : Int) < m := by omega
      clear hown
      go_wp2_with (at_builtin; apply stop_here)
      all_goals
        unfold Stop
        refine wpList_pushF rfl _ _ 22 rfl 33 (.agg #[.int .i64 0, .int .i64 0]) 2 16 Try.underlying22 info_insr rfl (by decide) (w.alloc (.cells #[.int .i64 K, .int .i64 V] 24)) _ (w.heap.size + 1) _ (2 * j) _ HOWN.out _ 2 _ _ rfl rfl rfl (by simp [Value.oneCell']) (by decide) (by simp) (by unfold maxLen; omega) (by omega) (by simp) (by simp) ?_
        intro g cap y hown1 hgr hat
        have HOWN1 := Lib.hid hown1
        clear hown1 hgr hat
        go_wp2
        refine ⟨⟨j + 1, by omega, congrArg (Value.int .i64) (by omega), ⟨y, rfl⟩, ?_⟩, by simp only [intOf]; omega⟩
        rw [show 2 * (j + 1) = 2 * j + 2 by omega, dropP, recs_append]
        exact HOWN1.out
    · obtain rfl : j = m := by omega
      obtain ⟨a, c, rfl⟩ := (own_rd hown).form
      clear hown
      have i2 : ¬ (j : Int) < j := by omega
      have ED := Lib.hid (show recs (endP j) = recs (dropP j) ++ [.int .i64 14, .int .i64 (((2 * j : Nat) : Int) + 1)] by rw [endP, recs_append]; rfl)
      have AD := Lib.hid (show recs (aroundP j) = recs (dropP j) ++ [.int .i64 14, .int .i64 0] by rw [aroundP, recs_append]; rfl)
      generalize hL : 2 * j = L at *
      have hL60 : L < 60 := by omega
      have hL60' : (L : Int) < 60 := by omega
      clear hL
      have HONE := Lib.hid (recs_one (dropP j))
      generalize recs (dropP j) = ds at *
      go_wp2_with (at_builtin; apply stop_here)
      unfold Stop
      have HL1 := Lib.hid (own_empty (ext (w.alloc (.cells #[.int .i64 K, .int .i64 V] 24)) z) (ext (w.alloc (.cells #[.int .i64 K, .int .i64 V] 24)) z).heap.size 33 2 (w.heap.size + 1 + z.hs.length) (by simp) (Nat.le_refl _))
      have NE1 := Lib.hid (own_apart HOWN.out HL1.out (.inl (Nat.le_refl _)))
      refine wpList_app rfl _ _ 22 rfl 33 (.agg #[.int .i64 0, .int .i64 0]) 2 16 Try.underlying22 info_insr rfl (by decide) (w.alloc (.cells #[.int .i64 K, .int .i64 V] 24)) (by (repeat' (first | with_reducible exact Ext.refl _ | with_reducible refine Ext.ext ?_ _ | with_reducible refine Ext.alloc ?_ _ | with_reducible refine Ext.drew ?_ | with_reducible refine Ext.drewN ?_ _ | with_reducible assumption))) (ext (w.alloc (.cells #[.int .i64 K, .int .i64 V] 24)) z).heap.size _ 0 [] HL1.out L _ ds rfl rfl (own_rd (HOWN.out.alloc _)) HONE.out (by unfold maxLen; omega) (by omega) (by simp) (by simp) ?_
      intro b1 c1 y1 hown1 hgr1 hat1
      simp only [Nat.zero_add, List.nil_append] at hown1
      have HP1 := Lib.hid ((HOWN.out.alloc _).kept hgr1 NE1.out)
      have HE1 := Lib.hid hown1
      have hgs1 := hgr1.size
      simp only [World.size_alloc] at hgs1
      clear hown1 hgr1 hat1
      go_wp2_with (at_builtin; apply stop_here)
      unfold Stop
      refine wpList_pushF rfl _ _ 22 rfl 33 (.agg #[.int .i64 0, .int .i64 0]) 2 16 Try.underlying22 info_insr rfl (by decide) (w.alloc (.cells #[.int .i64 K, .int .i64 V] 24)) _ (ext (w.alloc (.cells #[.int .i64 K, .int .i64 V] 24)) z).heap.size _ L _ HE1.out _ 1 _ _ rfl rfl rfl (by simp [Value.oneCell']) (by decide) (by simp) (by unfold maxLen; omega) (by omega) ?_ (by simp) ?_
      · have := HE1.out
        rcases Nat.lt_or_ge (ext (w.alloc (.cells #[.int .i64 K, .int .i64 V] 24)) y1).heap.size (ext (w.alloc (.cells #[.int .i64 K, .int .i64 V] 24)) z).heap.size with h | h
        · have := hgs1
          omega
        · exact h
      intro g2 cap2 y2 hown2 hgr2 hat2
      have hs2 := hgr2.size
      have HP2 := Lib.hid (HP1.out.kept hgr2 (own_apart HOWN.out HE1.out (.inl (Nat.le_refl _))))
      have HE2 := Lib.hid hown2
      clear hown2 hgr2 hat2
      go_wp2_with (at_builtin; apply stop_here)
      unfold Stop
      have HL2 := Lib.hid (own_empty (ext (w.alloc (.cells #[.int .i64 K, .int .i64 V] 24)) y2) (ext (w.alloc (.cells #[.int .i64 K, .int .i64 V] 24)) y2).heap.size 33 2 (w.heap.size + 1 + y2.hs.length) (by simp) (Nat.le_refl _))
      refine wpList_app rfl _ _ 22 rfl 33 (.agg #[.int .i64 0, .int .i64 0]) 2 16 Try.underlying22 info_insr rfl (by decide) (w.alloc (.cells #[.int .i64 K, .int .i64 V] 24)) (by (repeat' (first | with_reducible exact Ext.refl _ | with_reducible refine Ext.ext ?_ _ | with_reducible refine Ext.alloc ?_ _ | with_reducible refine Ext.drew ?_ | with_reducible refine Ext.drewN ?_ _ | with_reducible assumption))) (ext (w.alloc (.cells #[.int .i64 K, .int .i64 V] 24)) y2).heap.size _ 0 [] HL2.out L _ ds rfl rfl (own_rd (HP2.out.alloc _)) HONE.out (by unfold maxLen; omega) (by omega) (by simp) (by simp) ?_
      intro b3 c3 y3 hown3 hgr3 hat3
      simp only [Nat.zero_add, List.nil_append] at hown3
      have hs3 := hgr3.size
      have HE3 := Lib.hid ((HE2.out.alloc _).kept hgr3 (own_apart HE2.out HL2.out (.inl (Nat.le_refl _))))
      have HA3 := Lib.hid hown3
      clear hown3 hgr3 hat3
      go_wp2_with (at_builtin; apply stop_here)
      unfold Stop
      refine wpList_pushF rfl _ _ 22 rfl 33 (.agg #[.int .i64 0, .int .i64 0]) 2 16 Try.underlying22 info_insr rfl (by decide) (w.alloc (.cells #[.int .i64 K, .int .i64 V] 24)) _ (ext (w.alloc (.cells #[.int .i64 K, .int .i64 V] 24)) y2).heap.size _ L _ HA3.out _ 1 _ _ rfl rfl rfl (by simp [Value.oneCell']) (by decide) (by simp) (by unfold maxLen; omega) (by omega) (by simp at hs3 ⊢; omega) (by simp) ?_
      intro g4 cap4 y4 hown4 hgr4 hat4
      have HE4 := Lib.hid (HE3.out.kept hgr4 (own_apart HE2.out HA3.out (.inl (Nat.le_refl _))))
      have HA4 := Lib.hid hown4
      clear hown4 hgr4 hat4
      have q1 := own_rd HE4.out
      have q2 := own_rd HA4.out
      have Q1 : Hid (Rd _ 2 (L + 1) _ (recs (endP j))) := Lib.hid (ED.out ▸ q1)
      have Q2 : Hid (Rd _ 2 (L + 1) _ (recs (aroundP j))) := Lib.hid (AD.out ▸ q2)
      clear q1 q2 ED AD HE4 HA4 HA3 HE3 HL2 HP2 HE2 HE1 HP1 NE1 HL1 hs2 hs3 hgs1 HOWN
      go_wp2_with (first | (go_at_call 9; (with_reducible refine (RUN1.out _ _ Q1.out).mono ?_); rintro e w' ⟨a5, c5, rfl, hx, -⟩; have k0 := (keep_cell (b := w.heap.size) (i := 0) (u := .int .i64 K) (by rw [cell_ext_a _ _ _ (by simp)]; simp) hx).2; have k1 := (keep_cell (b := w.heap.size) (i := 1) (u := .int .i64 V) (by rw [cell_ext_a _ _ _ (by simp)]; simp) hx).2; have HX := Lib.hid hx; clear hx Q1) | (go_at_call 9; (with_reducible refine (RUN2.out _ _ (Q2.out.of_ext HX.out)).mono ?_); intro e w'' he; obtain ⟨g, c6, rfl, hx, -, -, -, -⟩ := he.one; have HX2 := Lib.hid hx; clear hx he))
      go_returns
      exact ⟨retb rfl rfl, ((((Ext.refl w).alloc _).ext y4).trans HX.out).trans HX2.out⟩
end Go.Proofs.Ytddckdlkopohhaa

/- The walk of ProgEcho. -/
import Derived.Test.YtddckdlkopohhaaPrA
namespace Go.Proofs.Ytddckdlkopohhaa
set_option linter.unusedSimpArgs false
set_option linter.unusedVariables false
open Go.RowKit

def echoP : Nat → List (Int × Int)
  | 0 => []
  | j + 1 => echoP j ++ [(2, 0), (3, 0), (16, 0)]
theorem echo_len (j : Nat) : (echoP j).length = 3 * j := by
  induction j with
  | zero => rfl
  | succ j ih => simp only [echoP, List.length_append, ih, List.length_cons, List.length_nil]; omega
theorem echo_in (j : Nat) : ∀ r ∈ echoP j, In64 r.2 := by
  induction j with
  | zero => intro r hr; cases hr
  | succ j ih =>
    intro r hr
    rcases List.mem_append.1 hr with hr | hr
    · exact ih r hr
    · simp only [List.mem_cons, List.not_mem_nil, or_false] at hr
      rcases hr with rfl | rfl | rfl <;> decide
theorem echo_0 (K V : Int) : runP (echoP 0) K V = (List.replicate 0 (K, V), 0) := by kernel_rfl
theorem echo_1 (K V : Int) : runP (echoP 1) K V = (List.replicate 1 (K, V), 0) := by kernel_rfl
theorem echo_2 (K V : Int) : runP (echoP 2) K V = (List.replicate 2 (K, V), 0) := by kernel_rfl
theorem echo_3 (K V : Int) : runP (echoP 3) K V = (List.replicate 3 (K, V), 0) := by kernel_rfl
theorem echo_4 (K V : Int) : runP (echoP 4) K V = (List.replicate 4 (K, V), 0) := by kernel_rfl
theorem echo_5 (K V : Int) : runP (echoP 5) K V = (List.replicate 5 (K, V), 0) := by kernel_rfl
theorem echo_6 (K V : Int) : runP (echoP 6) K V = (List.replicate 6 (K, V), 0) := by kernel_rfl
theorem echo_7 (K V : Int) : runP (echoP 7) K V = (List.replicate 7 (K, V), 0) := by kernel_rfl
theorem echo_8 (K V : Int) : runP (echoP 8) K V = (List.replicate 8 (K, V), 0) := by kernel_rfl
theorem echo_9 (K V : Int) : runP (echoP 9) K V = ([(K, -9223372036854775803)], 5) := by kernel_rfl
theorem echo_10 (K V : Int) : runP (echoP 10) K V = ([(K, -9223372036854775803)], 5) := by kernel_rfl
theorem echo_11 (K V : Int) : runP (echoP 11) K V = ([(K, -9223372036854775803)], 5) := by kernel_rfl
theorem echo_run (K V : Int) (m : Nat) (h : m < 12) : (m ≤ 8 → runP (echoP m) K V = (List.replicate m (K, V), 0)) ∧ (8 < m → runP (echoP m) K V = ([(K, -9223372036854775803)], 5)) := by
  refine ⟨fun h8 => ?_, fun h8 => ?_⟩
  · obtain rfl | rfl | rfl | rfl | rfl | rfl | rfl | rfl | rfl : m = 0 ∨ m = 1 ∨ m = 2 ∨ m = 3 ∨ m = 4 ∨ m = 5 ∨ m = 6 ∨ m = 7 ∨ m = 8 := by omega
    · exact echo_0 K V
    · exact echo_1 K V
    · exact echo_2 K V
    · exact echo_3 K V
    · exact echo_4 K V
    · exact echo_5 K V
    · exact echo_6 K V
    · exact echo_7 K V
    · exact echo_8 K V
  · obtain rfl | rfl | rfl : m = 9 ∨ m = 10 ∨ m = 11 := by omega
    · exact echo_9 K V
    · exact echo_10 K V
    · exact echo_11 K V
theorem RunEnd.many {w w' : World} {K V b : Int} {m : Nat} {e : Ending} (h : RunEnd w (List.replicate m (K, V), b) e w') : ∃ a c, e = .returned (.tuple #[.slice a m c, .int .i64 b]) ∧ Ext w w' ∧ ∀ i < m, ∃ g, a = some ⟨g, 0, none⟩ ∧ (∀ z, (ext w' z).cell? ⟨g, i * 2, none⟩ = some (.int .i64 K)) ∧ (∀ z, (ext w' z).cell? ⟨g, i * 2 + 1, none⟩ = some (.int .i64 V)) := by
  obtain ⟨a, c, rfl, hx, hown⟩ := h
  dsimp only at hown ⊢
  rw [List.length_replicate] at hown ⊢
  refine ⟨a, c, rfl, hx, fun i hi => ?_⟩
  obtain ⟨g, rfl, -⟩ := own_form hown (by omega)
  have hr : (List.replicate m (K, V))[i]? = some (K, V) := by simp [hi]
  obtain ⟨r1, r2⟩ := recs_get _ _ _ hr
  exact ⟨g, rfl, (own_cell hown _ _ r1).1, (own_cell hown _ _ r2).1⟩
theorem info_insq : (Try.prog.info? 33).map (fun i => (i.zero, i.size, i.bytes)) = some (some (.agg #[.int .i64 0, .int .i64 0]), 2, 16) := by kernel_rfl
def rbox (K V : Int) : Obj := .cells #[.int .i64 K, .int .i64 V] 24
set_option maxHeartbeats 4000000 in
theorem walk_ProgEcho (w : World) (K V : Int) (hK : In64 K) (hV : In64 V) (n : Int) (hn : 0 ≤ n ∧ n ≤ 255) :
    Calls Try.prog 7 #[.agg #[.int .i64 K, .int .i64 V], .int .u8 n] w fun r w' => r = .returned (.bool true) ∧ Ext w w' := by
  have AW := Lib.hid awake_any
  obtain ⟨N, rfl⟩ := Int.eq_ofNat_of_zero_le hn.1
  obtain ⟨m, hm⟩ : ∃ m, m = N % 12 := ⟨_, rfl⟩
  have hm12 : m < 12 := by omega
  have RUN := Lib.hid (fun v w h => run_any (echoP m) v K V w h (by rw [echo_len]; omega) hK hV (echo_in m))
  obtain ⟨er1, er2⟩ := echo_run K V m hm12
  have ER1 := Lib.hid er1
  have ER2 := Lib.hid er2
  clear hK hV er1 er2
  have hn1 := hn.1
  have hn2 := hn.2
  have hc : (N : Int) % 12 = m := by omega
  have hc2 : (N : Int).tmod 12 = m := by rw [Int.tmod_eq_emod_of_nonneg (by omega)]; omega
  clear hm hn
  go_enter Try.func7, Try.ntmps7
  go_wp2_with (first | (go_at_call 8; refine (AW.out _).mono ?_; rintro e w' ⟨rfl, x0, rfl⟩))
  clear hc hc2 hn1 hn2
  have h12 : (m : Int) < 12 := by omega
  go_loopw [5, 7] (fun v i wr => ∃ j : Nat, j ≤ m ∧ i = .int .i64 j ∧ (∃ z, wr = ext (w.alloc (.cells #[.int .i64 K, .int .i64 V] 24)) z) ∧ wr.ownsRow (w.heap.size + 1) 33 2 v (3 * j) (recs (echoP j))) (fun _ i _ => m - (intOf i).toNat)
  case atStart => exact ⟨0, Nat.zero_le _, rfl, ⟨_, rfl⟩, World.ownsRow_nil _ _ _ _⟩
  case round =>
    obtain ⟨j, hj, rfl, ⟨z, rfl⟩, hown⟩ := hrel
    have HOWN := Lib.hid hown
    clear hown
    by_cases hlt : j < m
    · have i2 : (j : Int) < m := by omega
      go_wp2_with (at_builtin; apply stop_here)
      all_goals
        unfold Stop
        refine wpList_pushF rfl _ _ 22 rfl 33 (.agg #[.int .i64 0, .int .i64 0]) 2 16 Try.underlying22 info_insq rfl (by decide) (w.alloc (.cells #[.int .i64 K, .int .i64 V] 24)) _ (w.heap.size + 1) _ (3 * j) _ HOWN.out _ 3 _ _ rfl rfl rfl (by simp [Value.oneCell']) (by decide) (by simp) (by unfold maxLen; omega) (by omega) (by simp) (by simp) ?_
        intro g cap y hown1 hgr hat
        have HOWN1 := Lib.hid hown1
        clear hown1 hgr hat
        go_wp2
        refine ⟨⟨j + 1, by omega, congrArg (Value.int .i64) (by omega), ⟨y, rfl⟩, ?_⟩, by simp only [intOf]; omega⟩
        rw [show 3 * (j + 1) = 3 * j + 3 by omega, echoP, recs_append]
        exact HOWN1.out
    · obtain rfl : j = m := by omega
      have H := Lib.hid (own_rd HOWN.out)
      have RUN' := Lib.hid (fun v w h => RUN.out v w (by rw [echo_len]; exact h))
      clear RUN
      by_cases h8 : 8 < j
      · have h8' : (8 : Int) < j := by omega
        have R := Lib.hid (fun v w h => ER2.out h8 ▸ RUN'.out v w h)
        clear RUN' ER1 ER2
        go_wp2_with (first | (go_at_call 9; refine (R.out _ _ H.out).mono ?_; intro e w' he; obtain ⟨g, c1, rfl, hx, c0, c1', -, -⟩ := he.one; have k0 := (keep_cell (b := w.heap.size) (i := 0) (u := .int .i64 K) (by rw [cell_ext_a _ _ _ (by simp)]; simp) hx).1; have HX := Lib.hid hx; clear hx he))
        refine wp_region_ext (by kernel_rfl) (by kernel_rfl) ?_
        repeat (go_big_quiet_step (fail))
        refine wpQuiet_nil ?_
        intro xK
        go_wp2
        go_returns
        exact ⟨retb rfl rfl, (((((Ext.refl w).alloc _).ext z)).trans HX.out).ext _⟩
      · have h8' : ¬ (8 : Int) < j := by omega
        have er := ER1.out (by omega)
        have R := RUN'
        rw [er] at R
        clear er
        clear RUN' ER1 ER2
        go_wp2_with (first | (go_at_call 9; refine (R.out _ _ H.out).mono ?_; intro e w' he; obtain ⟨a, c1, rfl, hx, hc⟩ := he.many; have HC := Lib.hid hc; have k0 := (keep_cell (b := w.heap.size) (i := 0) (u := .int .i64 K) (by rw [cell_ext_a _ _ _ (by simp)]; simp) hx).1; have k1 := (keep_cell (b := w.heap.size) (i := 1) (u := .int .i64 V) (by rw [cell_ext_a _ _ _ (by simp)]; simp) hx).1; have HX := Lib.hid hx; clear hx he hc))
        go_loopw [10] (fun i wr => ∃ k : Nat, k ≤ j ∧ i = .int .i64 k ∧ ∃ z', wr = ext w' z') (fun i _ => j - (intOf i).toNat)
        case atStart => exact ⟨0, Nat.zero_le _, rfl, ⟨[], w'.drawn⟩, (ext_zero w').symm⟩
        case round =>
          obtain ⟨k, hk, rfl, z', rfl⟩ := hrel
          by_cases hkt : k < j
          · obtain ⟨g, rfl, c0, c2⟩ := HC.out k hkt
            have i1 : (0 : Int) ≤ k := by omega
            have i3 : (k : Int) < j := by omega
            have d0 := fun u => c0 (z'.add u)
            have d2 := fun u => c2 (z'.add u)
            have l0 := fun u => k0 (z'.add u)
            have l1 := fun u => k1 (z'.add u)
            clear c0 c2 k0 k1
            go_wp2
            refine wp_region_ext (by kernel_rfl) (by kernel_rfl) ?_
            repeat (go_big_quiet_step (fail))
            refine wpQuiet_nil ?_
            intro xK
            go_wp2
            exact ⟨⟨k + 1, by omega, congrArg (Value.int .i64) (by omega), ⟨_, rfl⟩⟩, by simp only [intOf]; omega⟩
          · obtain rfl : k = j := by omega
            go_wp2
            go_returns
            exact ⟨retb rfl rfl, (((((Ext.refl w).alloc _).ext z)).trans HX.out).ext _⟩
end Go.Proofs.Ytddckdlkopohhaa

/- Contract of hop.Le where it answers no ahead of its loop. -/
import Derived.Test.YtfdgeomomafnbaaHop4b
namespace Go.Proofs.Ytfdgeomomafnbaa
set_option linter.unusedSimpArgs false
set_option linter.unusedVariables false
open Go.RowKit

set_option maxHeartbeats 1000000 in
theorem hopLe_out (f k l a b c e p q r s f' k' l' a' b' c' e' p' q' r' s' : Int) (w : World) (h : ¬ (hopB ⟨f, k, l, a, b, c, e, p, q, r, s⟩ = true ∧ hopB ⟨f', k', l', a', b', c', e', p', q', r', s'⟩ = true ∧ f = f' ∧ k + l = k' + l')) :
    Calls Try.prog 37 #[.agg #[.int .i64 f, .int .i64 k, .int .i64 l, .int .i64 a, .int .i64 b, .int .i64 c, .int .i64 e, .int .i64 p, .int .i64 q, .int .i64 r, .int .i64 s], .agg #[.int .i64 f', .int .i64 k', .int .i64 l', .int .i64 a', .int .i64 b', .int .i64 c', .int .i64 e', .int .i64 p', .int .i64 q', .int .i64 r', .int .i64 s']] w fun o w' => o = .returned (.bool false) ∧ Ext w w' := by
  have r1 := fun w => hopRight_any f k l a b c e p q r s w
  have r2 := fun w => hopRight_any f' k' l' a' b' c' e' p' q' r' s' w
  cases hx : hopB ⟨f, k, l, a, b, c, e, p, q, r, s⟩
  · rw [hx] at r1
    have R1 := Lib.hid r1
    clear r1 r2 hx h
    go_enter Try.func37, Try.ntmps37
    go_wp2
    refine wp_region_ext (by kernel_rfl) (by kernel_rfl) ?_
    repeat (go_big_quiet_step (first | (go_at_call 35; (apply quiet_of; (with_reducible exact R1.out _); (intro w' hx; obtain ⟨z, rfl⟩ := hx; (try simp only [ext_ext, add_assoc]); exact ⟨_, rfl⟩)))))
    refine wpQuiet_nil ?_
    intro xK
    go_wp2
    go_returns
    exact ⟨retb rfl rfl, by (repeat' (first | with_reducible exact Ext.refl _ | with_reducible refine Ext.ext ?_ _ | with_reducible refine Ext.alloc ?_ _ | with_reducible refine Ext.drew ?_ | with_reducible refine Ext.drewN ?_ _ | with_reducible assumption))⟩
  · cases hy : hopB ⟨f', k', l', a', b', c', e', p', q', r', s'⟩
    · rw [hx] at r1
      rw [hy] at r2
      have R1 := Lib.hid r1
      have R2 := Lib.hid r2
      clear r1 r2 hx hy h
      go_enter Try.func37, Try.ntmps37
      go_wp2
      refine wp_region_ext (by kernel_rfl) (by kernel_rfl) ?_
      repeat (go_big_quiet_step (first | (go_at_call 35; (apply quiet_of; (with_reducible exact R1.out _); (intro w' hx; obtain ⟨z, rfl⟩ := hx; (try simp only [ext_ext, add_assoc]); exact ⟨_, rfl⟩))) | (go_at_call 35; (apply quiet_of; (with_reducible exact R2.out _); (intro w' hx; obtain ⟨z, rfl⟩ := hx; (try simp only [ext_ext, add_assoc]); exact ⟨_, rfl⟩)))))
      refine wpQuiet_nil ?_
      intro xK
      go_wp2
      go_returns
      exact ⟨retb rfl rfl, by (repeat' (first | with_reducible exact Ext.refl _ | with_reducible refine Ext.ext ?_ _ | with_reducible refine Ext.alloc ?_ _ | with_reducible refine Ext.drew ?_ | with_reducible refine Ext.drewN ?_ _ | with_reducible assumption))⟩
    · obtain ⟨⟨x1, x2, x3, x4, x5, x6, x7, x8⟩, -, -⟩ := (hopB_iff _).1 hx
      obtain ⟨⟨y1, y2, y3, y4, y5, y6, y7, y8⟩, -, -⟩ := (hopB_iff _).1 hy
      simp only at x1 x2 x3 x4 x5 x6 x7 x8 y1 y2 y3 y4 y5 y6 y7 y8
      have z3 : k ≤ 4 := by omega
      have z4 : k' ≤ 4 := by omega
      have hfg : f ≠ f' ∨ (f = f' ∧ k + l ≠ k' + l') := by
        by_cases hf : f = f'
        · exact .inr ⟨hf, fun hg => h ⟨hx, hy, hf, hg⟩⟩
        · exact .inl hf
      rw [hx] at r1
      rw [hy] at r2
      have R1 := Lib.hid r1
      have R2 := Lib.hid r2
      have G1 := Lib.hid (fun w => gives_in f k l a b c e p q r s w x3 z3 x5 x6)
      have G2 := Lib.hid (fun w => gives_in f' k' l' a' b' c' e' p' q' r' s' w y3 z4 y5 y6)
      clear r1 r2 hx hy h
      rcases hfg with hne | ⟨hf, hne⟩
      · have hb : (f == f') = false := by simpa using hne
        have hb2 : (f != f') = true := by simpa using hne
        go_enter Try.func37, Try.ntmps37
        go_wp2
        refine wp_region_ext (by kernel_rfl) (by kernel_rfl) ?_
        repeat (go_big_quiet_step (first | (go_at_call 35; (apply quiet_of; (with_reducible exact R1.out _); (intro w' hx; obtain ⟨z, rfl⟩ := hx; (try simp only [ext_ext, add_assoc]); exact ⟨_, rfl⟩))) | (go_at_call 35; (apply quiet_of; (with_reducible exact R2.out _); (intro w' hx; obtain ⟨z, rfl⟩ := hx; (try simp only [ext_ext, add_assoc]); exact ⟨_, rfl⟩))) | (go_at_call 48; (apply quiet_of; (with_reducible exact G1.out _); (intro w' hx; obtain ⟨z, rfl⟩ := hx; (try simp only [ext_ext, add_assoc]); exact ⟨_, rfl⟩))) | (go_at_call 48; (apply quiet_of; (with_reducible exact G2.out _); (intro w' hx; obtain ⟨z, rfl⟩ := hx; (try simp only [ext_ext, add_assoc]); exact ⟨_, rfl⟩)))))
        refine wpQuiet_nil ?_
        intro xK
        go_wp2
        go_returns
        exact ⟨retb rfl rfl, by (repeat' (first | with_reducible exact Ext.refl _ | with_reducible refine Ext.ext ?_ _ | with_reducible refine Ext.alloc ?_ _ | with_reducible refine Ext.drew ?_ | with_reducible refine Ext.drewN ?_ _ | with_reducible assumption))⟩
      · subst hf
        have hb : (k + l == k' + l') = false := by simpa using hne
        have hb2 : (k + l != k' + l') = true := by simpa using hne
        go_enter Try.func37, Try.ntmps37
        go_wp2
        refine wp_region_ext (by kernel_rfl) (by kernel_rfl) ?_
        repeat (go_big_quiet_step (first | (go_at_call 35; (apply quiet_of; (with_reducible exact R1.out _); (intro w' hx; obtain ⟨z, rfl⟩ := hx; (try simp only [ext_ext, add_assoc]); exact ⟨_, rfl⟩))) | (go_at_call 35; (apply quiet_of; (with_reducible exact R2.out _); (intro w' hx; obtain ⟨z, rfl⟩ := hx; (try simp only [ext_ext, add_assoc]); exact ⟨_, rfl⟩))) | (go_at_call 48; (apply quiet_of; (with_reducible exact G1.out _); (intro w' hx; obtain ⟨z, rfl⟩ := hx; (try simp only [ext_ext, add_assoc]); exact ⟨_, rfl⟩))) | (go_at_call 48; (apply quiet_of; (with_reducible exact G2.out _); (intro w' hx; obtain ⟨z, rfl⟩ := hx; (try simp only [ext_ext, add_assoc]); exact ⟨_, rfl⟩)))))
        refine wpQuiet_nil ?_
        intro xK
        go_wp2
        go_returns
        exact ⟨retb rfl rfl, by (repeat' (first | with_reducible exact Ext.refl _ | with_reducible refine Ext.ext ?_ _ | with_reducible refine Ext.alloc ?_ _ | with_reducible refine Ext.drew ?_ | with_reducible refine Ext.drewN ?_ _ | with_reducible assumption))⟩
end Go.Proofs.Ytfdgeomomafnbaa

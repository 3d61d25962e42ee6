/- Steps: order. -/
import Derived.Test.YtkmgdejpdhlleaaHop1
import Derived.Test.YtkmgdejpdhlleaaMem
namespace Go.Proofs.Ytkmgdejpdhlleaa
set_option linter.unusedSimpArgs false
set_option linter.unusedVariables false
set_option maxRecDepth 100000
open Go.RowKit

theorem hopB_iff (h : Hp) : hopB h = true ↔ (1 ≤ h.f ∧ h.f ≤ 4 ∧ 0 ≤ h.k ∧ h.k ≤ h.f ∧ 0 ≤ h.l ∧ h.l ≤ 4 ∧ 1 ≤ h.k + h.l ∧ h.k + h.l ≤ 4) ∧ withinB h.a h.b h.c h.e h.k = true ∧ withinB h.p h.q h.r h.s h.l = true := by
  simp only [hopB, Bool.and_eq_true, decide_eq_true_eq]

/-- Does place i of the one step stand at or before that of the other? -/
def okH (x y : Hp) (i : Int) : Bool := !(decide (i < x.k) && !decide (i < y.k)) && decide (atV x i ≤ atV y i)
def leTo (x y : Hp) : Nat → Bool
  | 0 => true
  | k + 1 => leTo x y k && okH x y k
def leHB (x y : Hp) : Bool := hopB x && hopB y && decide (x.f = y.f) && decide (x.k + x.l = y.k + y.l) && leTo x y (x.k + x.l).toNat
theorem leTo_false (x y : Hp) (k : Nat) (h : okH x y k = false) : ∀ n, k < n → leTo x y n = false
  | 0, hn => absurd hn (by omega)
  | n + 1, hn => by
    by_cases hk : k = n
    · subst hk; simp [leTo, h]
    · simp [leTo, leTo_false x y k h n (by omega)]
/-- hop.at at any place of a right step. -/
theorem hopAt_any (f k l a b c e p q r s i : Int) (w : World) (h0 : 0 ≤ i) (h4 : i < 4) (hk : 0 ≤ k) (hk4 : k ≤ 4) :
    Calls Try.prog 98 #[.agg #[.int .i64 f, .int .i64 k, .int .i64 l, .int .i64 a, .int .i64 b, .int .i64 c, .int .i64 e, .int .i64 p, .int .i64 q, .int .i64 r, .int .i64 s], .int .i64 i] w fun r' w' => r' = .returned (.tuple #[.int .i64 (atV ⟨f, k, l, a, b, c, e, p, q, r, s⟩ i), .bool (decide (i < k))]) ∧ Ext w w' := by
  by_cases h : i < k
  · rw [decide_eq_true h]
    exact hopAt_kept f k l a b c e p q r s i w h0 h4 h
  · rw [decide_eq_false h]
    have := hopAt_new f k l a b c e p q r s (i - k) w (by omega) (by omega) hk hk4
    rw [show k + (i - k) = i by omega] at this
    exact this
set_option maxHeartbeats 1000000 in
theorem hopLe_in (f k l a b c e p q r s k' l' a' b' c' e' p' q' r' s' : Int) (w : World) (hx : hopB ⟨f, k, l, a, b, c, e, p, q, r, s⟩ = true) (hy : hopB ⟨f, k', l', a', b', c', e', p', q', r', s'⟩ = true) (hg : k + l = k' + l') :
    Calls Try.prog 41 #[.agg #[.int .i64 f, .int .i64 k, .int .i64 l, .int .i64 a, .int .i64 b, .int .i64 c, .int .i64 e, .int .i64 p, .int .i64 q, .int .i64 r, .int .i64 s], .agg #[.int .i64 f, .int .i64 k', .int .i64 l', .int .i64 a', .int .i64 b', .int .i64 c', .int .i64 e', .int .i64 p', .int .i64 q', .int .i64 r', .int .i64 s']] w fun o w' => o = .returned (.bool (leTo ⟨f, k, l, a, b, c, e, p, q, r, s⟩ ⟨f, k', l', a', b', c', e', p', q', r', s'⟩ (k + l).toNat)) ∧ Ext w w' := by
  obtain ⟨⟨x1, x2, x3, x4, x5, x6, x7, x8⟩, -, -⟩ := (hopB_iff _).1 hx
  obtain ⟨⟨y1, y2, y3, y4, y5, y6, y7, y8⟩, -, -⟩ := (hopB_iff _).1 hy
  simp only at x1 x2 x3 x4 x5 x6 x7 x8 y1 y2 y3 y4 y5 y6 y7 y8
  have z3 : k ≤ 4 := by omega
  have z4 : k' ≤ 4 := by omega
  have HX := Lib.hid hx
  have HY := Lib.hid hy
  obtain ⟨n, hn⟩ := Int.eq_ofNat_of_zero_le (show 0 ≤ k + l by omega)
  have hn' : k' + l' = (n : Int) := by omega
  have hn4 : n ≤ 4 := by omega
  have hN : (k + l).toNat = n := by omega
  rw [hN]
  have HN := Lib.hid hn
  have HN2 := Lib.hid hn'
  clear hx hy hN hg hn hn'
  have g1 := fun w => gives_in f k l a b c e p q r s w x3 z3 x5 x6
  have g2 := fun w => gives_in f k' l' a' b' c' e' p' q' r' s' w y3 z4 y5 y6
  rw [HN.out] at g1
  rw [HN2.out] at g2
  have r1 := fun w => hopRight_any f k l a b c e p q r s w
  have r2 := fun w => hopRight_any f k' l' a' b' c' e' p' q' r' s' w
  rw [HX.out] at r1
  rw [HY.out] at r2
  have G1 := Lib.hid g1
  have G2 := Lib.hid g2
  have R1 := Lib.hid r1
  have R2 := Lib.hid r2
  clear g1 g2 r1 r2
  go_enter Try.func41, Try.ntmps41
  go_wp2
  refine wp_region_ext (by kernel_rfl) (by kernel_rfl) ?_
  repeat (go_big_quiet_step (first | (go_at_call 40; (apply quiet_of; (with_reducible exact R1.out _); (intro w' hx; obtain ⟨z, rfl⟩ := hx; (try simp only [ext_ext, add_assoc]); exact ⟨_, rfl⟩))) | (go_at_call 40; (apply quiet_of; (with_reducible exact R2.out _); (intro w' hx; obtain ⟨z, rfl⟩ := hx; (try simp only [ext_ext, add_assoc]); exact ⟨_, rfl⟩))) | (go_at_call 94; (apply quiet_of; (with_reducible exact G1.out _); (intro w' hx; obtain ⟨z, rfl⟩ := hx; (try simp only [ext_ext, add_assoc]); exact ⟨_, rfl⟩))) | (go_at_call 94; (apply quiet_of; (with_reducible exact G2.out _); (intro w' hx; obtain ⟨z, rfl⟩ := hx; (try simp only [ext_ext, add_assoc]); exact ⟨_, rfl⟩)))))
  refine wpQuiet_nil ?_
  intro xK
  go_wp2_with (go_at_call 94; ((with_reducible refine (G1.out _).mono ?_); rintro o w' ⟨rfl, u, rfl⟩))
  go_loopw [34] (fun i wr => ∃ j : Nat, j ≤ n ∧ i = .int .i64 j ∧ leTo ⟨f, k, l, a, b, c, e, p, q, r, s⟩ ⟨f, k', l', a', b', c', e', p', q', r', s'⟩ j = true ∧ Ext ((w.alloc (.cells #[.int .i64 f, .int .i64 k, .int .i64 l, .int .i64 a, .int .i64 b, .int .i64 c, .int .i64 e, .int .i64 p, .int .i64 q, .int .i64 r, .int .i64 s] 82)).alloc (.cells #[.int .i64 f, .int .i64 k', .int .i64 l', .int .i64 a', .int .i64 b', .int .i64 c', .int .i64 e', .int .i64 p', .int .i64 q', .int .i64 r', .int .i64 s'] 82)) wr) (fun i _ => n - (intOf i).toNat)
  case atStart => exact ⟨0, by omega, rfl, rfl, by (repeat' (first | with_reducible exact Ext.refl _ | with_reducible refine Ext.ext ?_ _ | with_reducible refine Ext.alloc ?_ _ | with_reducible refine Ext.drew ?_ | with_reducible refine Ext.drewN ?_ _ | with_reducible assumption))⟩
  case round =>
    obtain ⟨j, hj, rfl, hle, z, rfl⟩ := hrel
    have HLE := Lib.hid hle
    clear hle
    by_cases hlt : j < n
    · have hj4 : (j : Int) < 4 := by omega
      have a1 := fun w => hopAt_any f k l a b c e p q r s j w (Int.natCast_nonneg j) hj4 x3 z3
      have a2 := fun w => hopAt_any f k' l' a' b' c' e' p' q' r' s' j w (Int.natCast_nonneg j) hj4 y3 z4
      have A1 := Lib.hid a1
      have A2 := Lib.hid a2
      clear a1 a2
      by_cases hok : okH ⟨f, k, l, a, b, c, e, p, q, r, s⟩ ⟨f, k', l', a', b', c', e', p', q', r', s'⟩ j = true
      · have hstep : leTo ⟨f, k, l, a, b, c, e, p, q, r, s⟩ ⟨f, k', l', a', b', c', e', p', q', r', s'⟩ (j + 1) = true := by simp [leTo, HLE.out, hok]
        have HS := Lib.hid hstep
        simp only [okH, Bool.and_eq_true, Bool.not_eq_true', decide_eq_true_eq, Bool.and_eq_false_iff, decide_eq_false_iff_not, Bool.not_eq_false'] at hok
        obtain ⟨ho1, ho2⟩ := hok
        clear hstep
        rcases ho1 with ho1 | ho1
        all_goals
          go_wp2_with (first | (go_at_call 98; ((with_reducible refine (A1.out _).mono ?_); rintro o w' ⟨rfl, u, rfl⟩)) | (go_at_call 98; ((with_reducible refine (A2.out _).mono ?_); rintro o w' ⟨rfl, u, rfl⟩)))
          all_goals first
            | (exfalso; omega)
            | exact ⟨⟨j + 1, by omega, by go_num, HS.out, by (repeat' (first | with_reducible exact Ext.refl _ | with_reducible refine Ext.ext ?_ _ | with_reducible refine Ext.alloc ?_ _ | with_reducible refine Ext.drew ?_ | with_reducible refine Ext.drewN ?_ _ | with_reducible assumption))⟩, by simp [intOf]; omega⟩
      · have hno : leTo ⟨f, k, l, a, b, c, e, p, q, r, s⟩ ⟨f, k', l', a', b', c', e', p', q', r', s'⟩ n = false := leTo_false _ _ j (by simpa using hok) n hlt
        have HNO := Lib.hid hno
        simp only [okH, Bool.and_eq_true, Bool.not_eq_true', decide_eq_true_eq, Bool.and_eq_false_iff, decide_eq_false_iff_not, Bool.not_eq_false'] at hok
        clear hno
        go_wp2_with (first | (go_at_call 98; ((with_reducible refine (A1.out _).mono ?_); rintro o w' ⟨rfl, u, rfl⟩)) | (go_at_call 98; ((with_reducible refine (A2.out _).mono ?_); rintro o w' ⟨rfl, u, rfl⟩)))
        all_goals first
          | (exfalso; omega)
          | (go_returns; exact ⟨retb rfl HNO.out.symm, by (repeat' (first | with_reducible exact Ext.refl _ | with_reducible refine Ext.ext ?_ _ | with_reducible refine Ext.alloc ?_ _ | with_reducible refine Ext.drew ?_ | with_reducible refine Ext.drewN ?_ _ | with_reducible assumption))⟩)
    · obtain rfl : j = n := by omega
      go_wp2
      go_returns
      exact ⟨retb rfl HLE.out.symm, by (repeat' (first | with_reducible exact Ext.refl _ | with_reducible refine Ext.ext ?_ _ | with_reducible refine Ext.alloc ?_ _ | with_reducible refine Ext.drew ?_ | with_reducible refine Ext.drewN ?_ _ | with_reducible assumption))⟩
set_option maxHeartbeats 1000000 in
theorem hopLe_out (f k l a b c e p q r s f' k' l' a' b' c' e' p' q' r' s' : Int) (w : World) (h : ¬ (hopB ⟨f, k, l, a, b, c, e, p, q, r, s⟩ = true ∧ hopB ⟨f', k', l', a', b', c', e', p', q', r', s'⟩ = true ∧ f = f' ∧ k + l = k' + l')) :
    Calls Try.prog 41 #[.agg #[.int .i64 f, .int .i64 k, .int .i64 l, .int .i64 a, .int .i64 b, .int .i64 c, .int .i64 e, .int .i64 p, .int .i64 q, .int .i64 r, .int .i64 s], .agg #[.int .i64 f', .int .i64 k', .int .i64 l', .int .i64 a', .int .i64 b', .int .i64 c', .int .i64 e', .int .i64 p', .int .i64 q', .int .i64 r', .int .i64 s']] w fun o w' => o = .returned (.bool false) ∧ Ext w w' := by
  have r1 := fun w => hopRight_any f k l a b c e p q r s w
  have r2 := fun w => hopRight_any f' k' l' a' b' c' e' p' q' r' s' w
  cases hx : hopB ⟨f, k, l, a, b, c, e, p, q, r, s⟩
  · rw [hx] at r1
    have R1 := Lib.hid r1
    clear r1 r2 hx h
    go_enter Try.func41, Try.ntmps41
    go_wp2
    refine wp_region_ext (by kernel_rfl) (by kernel_rfl) ?_
    repeat (go_big_quiet_step (first | (go_at_call 40; (apply quiet_of; (with_reducible exact R1.out _); (intro w' hx; obtain ⟨z, rfl⟩ := hx; (try simp only [ext_ext, add_assoc]); exact ⟨_, rfl⟩)))))
    refine wpQuiet_nil ?_
    intro xK
    go_wp2
    go_returns
    exact ⟨retb rfl rfl, by (repeat' (first | with_reducible exact Ext.refl _ | with_reducible refine Ext.ext ?_ _ | with_reducible refine Ext.alloc ?_ _ | with_reducible refine Ext.drew ?_ | with_reducible refine Ext.drewN ?_ _ | with_reducible assumption))⟩
  · cases hy : hopB ⟨f', k', l', a', b', c', e', p', q', r', s'⟩
    · rw [hx] at r1
      rw [hy] at r2
      have R1 := Lib.hid r1
      have R2 := Lib.hid r2
      clear r1 r2 hx hy h
      go_enter Try.func41, Try.ntmps41
      go_wp2
      refine wp_region_ext (by kernel_rfl) (by kernel_rfl) ?_
      repeat (go_big_quiet_step (first | (go_at_call 40; (apply quiet_of; (with_reducible exact R1.out _); (intro w' hx; obtain ⟨z, rfl⟩ := hx; (try simp only [ext_ext, add_assoc]); exact ⟨_, rfl⟩))) | (go_at_call 40; (apply quiet_of; (with_reducible exact R2.out _); (intro w' hx; obtain ⟨z, rfl⟩ := hx; (try simp only [ext_ext, add_assoc]); exact ⟨_, rfl⟩)))))
      refine wpQuiet_nil ?_
      intro xK
      go_wp2
      go_returns
      exact ⟨retb rfl rfl, by (repeat' (first | with_reducible exact Ext.refl _ | with_reducible refine Ext.ext ?_ _ | with_reducible refine Ext.alloc ?_ _ | with_reducible refine Ext.drew ?_ | with_reducible refine Ext.drewN ?_ _ | with_reducible assumption))⟩
    · obtain ⟨⟨x1, x2, x3, x4, x5, x6, x7, x8⟩, -, -⟩ := (hopB_iff _).1 hx
      obtain ⟨⟨y1, y2, y3, y4, y5, y6, y7, y8⟩, -, -⟩ := (hopB_iff _).1 hy
      simp only at x1 x2 x3 x4 x5 x6 x7 x8 y1 y2 y3 y4 y5 y6 y7 y8
      have z3 : k ≤ 4 := by omega
      have z4 : k' ≤ 4 := by omega
      have hfg : f ≠ f' ∨ (f = f' ∧ k + l ≠ k' + l') := by
        by_cases hf : f = f'
        · exact .inr ⟨hf, fun hg => h ⟨hx, hy, hf, hg⟩⟩
        · exact .inl hf
      rw [hx] at r1
      rw [hy] at r2
      have R1 := Lib.hid r1
      have R2 := Lib.hid r2
      have G1 := Lib.hid (fun w => gives_in f k l a b c e p q r s w x3 z3 x5 x6)
      have G2 := Lib.hid (fun w => gives_in f' k' l' a' b' c' e' p' q' r' s' w y3 z4 y5 y6)
      clear r1 r2 hx hy h
      rcases hfg with hne | ⟨hf, hne⟩
      · have hb : (f == f') = false := by simpa using hne
        have hb2 : (f != f') = true := by simpa using hne
        go_enter Try.func41, Try.ntmps41
        go_wp2
        refine wp_region_ext (by kernel_rfl) (by kernel_rfl) ?_
        repeat (go_big_quiet_step (first | (go_at_call 40; (apply quiet_of; (with_reducible exact R1.out _); (intro w' hx; obtain ⟨z, rfl⟩ := hx; (try simp only [ext_ext, add_assoc]); exact ⟨_, rfl⟩))) | (go_at_call 40; (apply quiet_of; (with_reducible exact R2.out _); (intro w' hx; obtain ⟨z, rfl⟩ := hx; (try simp only [ext_ext, add_assoc]); exact ⟨_, rfl⟩))) | (go_at_call 94; (apply quiet_of; (with_reducible exact G1.out _); (intro w' hx; obtain ⟨z, rfl⟩ := hx; (try simp only [ext_ext, add_assoc]); exact ⟨_, rfl⟩))) | (go_at_call 94; (apply quiet_of; (with_reducible exact G2.out _); (intro w' hx; obtain ⟨z, rfl⟩ := hx; (try simp only [ext_ext, add_assoc]); exact ⟨_, rfl⟩)))))
        refine wpQuiet_nil ?_
        intro xK
        go_wp2
        go_returns
        exact ⟨retb rfl rfl, by (repeat' (first | with_reducible exact Ext.refl _ | with_reducible refine Ext.ext ?_ _ | with_reducible refine Ext.alloc ?_ _ | with_reducible refine Ext.drew ?_ | with_reducible refine Ext.drewN ?_ _ | with_reducible assumption))⟩
      · subst hf
        have hb : (k + l == k' + l') = false := by simpa using hne
        have hb2 : (k + l != k' + l') = true := by simpa using hne
        go_enter Try.func41, Try.ntmps41
        go_wp2
        refine wp_region_ext (by kernel_rfl) (by kernel_rfl) ?_
        repeat (go_big_quiet_step (first | (go_at_call 40; (apply quiet_of; (with_reducible exact R1.out _); (intro w' hx; obtain ⟨z, rfl⟩ := hx; (try simp only [ext_ext, add_assoc]); exact ⟨_, rfl⟩))) | (go_at_call 40; (apply quiet_of; (with_reducible exact R2.out _); (intro w' hx; obtain ⟨z, rfl⟩ := hx; (try simp only [ext_ext, add_assoc]); exact ⟨_, rfl⟩))) | (go_at_call 94; (apply quiet_of; (with_reducible exact G1.out _); (intro w' hx; obtain ⟨z, rfl⟩ := hx; (try simp only [ext_ext, add_assoc]); exact ⟨_, rfl⟩))) | (go_at_call 94; (apply quiet_of; (with_reducible exact G2.out _); (intro w' hx; obtain ⟨z, rfl⟩ := hx; (try simp only [ext_ext, add_assoc]); exact ⟨_, rfl⟩)))))
        refine wpQuiet_nil ?_
        intro xK
        go_wp2
        go_returns
        exact ⟨retb rfl rfl, by (repeat' (first | with_reducible exact Ext.refl _ | with_reducible refine Ext.ext ?_ _ | with_reducible refine Ext.alloc ?_ _ | with_reducible refine Ext.drew ?_ | with_reducible refine Ext.drewN ?_ _ | with_reducible assumption))⟩
theorem hopLe_any (f k l a b c e p q r s f' k' l' a' b' c' e' p' q' r' s' : Int) (w : World) :
    Calls Try.prog 41 #[.agg #[.int .i64 f, .int .i64 k, .int .i64 l, .int .i64 a, .int .i64 b, .int .i64 c, .int .i64 e, .int .i64 p, .int .i64 q, .int .i64 r, .int .i64 s], .agg #[.int .i64 f', .int .i64 k', .int .i64 l', .int .i64 a', .int .i64 b', .int .i64 c', .int .i64 e', .int .i64 p', .int .i64 q', .int .i64 r', .int .i64 s']] w fun o w' => o = .returned (.bool (leHB ⟨f, k, l, a, b, c, e, p, q, r, s⟩ ⟨f', k', l', a', b', c', e', p', q', r', s'⟩)) ∧ Ext w w' := by
  by_cases h : hopB ⟨f, k, l, a, b, c, e, p, q, r, s⟩ = true ∧ hopB ⟨f', k', l', a', b', c', e', p', q', r', s'⟩ = true ∧ f = f' ∧ k + l = k' + l'
  · obtain ⟨hx, hy, rfl, hg⟩ := h
    have := hopLe_in f k l a b c e p q r s k' l' a' b' c' e' p' q' r' s' w hx hy hg
    have he : leHB ⟨f, k, l, a, b, c, e, p, q, r, s⟩ ⟨f, k', l', a', b', c', e', p', q', r', s'⟩ = leTo ⟨f, k, l, a, b, c, e, p, q, r, s⟩ ⟨f, k', l', a', b', c', e', p', q', r', s'⟩ (k + l).toNat := by
      simp [leHB, hx, hy, hg]
    rw [he]
    exact this
  · have := hopLe_out f k l a b c e p q r s f' k' l' a' b' c' e' p' q' r' s' w h
    have he : leHB ⟨f, k, l, a, b, c, e, p, q, r, s⟩ ⟨f', k', l', a', b', c', e', p', q', r', s'⟩ = false := by
      rw [← Bool.not_eq_true]
      intro hh
      simp only [leHB, Bool.and_eq_true, decide_eq_true_eq] at hh
      exact h ⟨hh.1.1.1.1, hh.1.1.1.2, hh.1.1.2, hh.1.2⟩
    rw [he]
    exact this
end Go.Proofs.Ytkmgdejpdhlleaa

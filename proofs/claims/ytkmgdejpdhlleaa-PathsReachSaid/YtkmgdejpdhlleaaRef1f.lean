/- The reference's lists of coordinates, and back. -/
import Derived.Test.YtkmgdejpdhlleaaRef1
import Derived.Test.YtkmgdejpdhlleaaApp
namespace Go.Proofs.Ytkmgdejpdhlleaa
set_option linter.unusedSimpArgs false
set_option linter.unusedVariables false
set_option maxRecDepth 100000
open Go.RowKit

theorem pre_get (t : Tm) : ∀ (k j : Nat), j < k → (j : Int) < t.d → 0 ≤ t.d → (pre t k)[j]? = some (t.at j)
  | 0, _, h, _, _ => absurd h (by omega)
  | k + 1, j, h, hj, h0 => by
    have hl := pre_len t h0 k
    by_cases hk : j = k
    · subst hk
      rw [pre_in t j hj, List.getElem?_append_right (by omega), show j - (pre t j).length = 0 by omega]
      rfl
    · have ih := pre_get t k j (by omega) hj h0
      by_cases hd : (k : Int) < t.d
      · rw [pre_in t k hd, List.getElem?_append_left (by omega), ih]
      · rw [pre_out t k (by omega), ih]
theorem add_unit (y : Inc) : y.add ⟨[], y.n⟩ = y := by simp [Inc.add]
/-- The list of a right timestamp, its coordinates as cells, however the world grows on. -/
theorem list_n (n : Nat) (a b c e : Int) (w : World) (h : rightB ⟨n, a, b, c, e⟩ = true) :
    Calls Try.prog 142 #[.agg #[.int .i64 n, .int .i64 a, .int .i64 b, .int .i64 c, .int .i64 e]] w fun r w' => ∃ g cap x, r = .returned (.tuple #[.slice (some ⟨g, 0, none⟩) n cap, .bool true]) ∧ w' = ext w x ∧
      (ext w x).ownsRow w.heap.size 3 1 (.slice (some ⟨g, 0, none⟩) n cap) n (ints (pre ⟨n, a, b, c, e⟩ 4)) ∧
      ∀ j : Nat, j < n → (ext w x).cell? ⟨g, j, none⟩ = some (.int .i64 (Tm.at ⟨n, a, b, c, e⟩ j)) := by
  have hd := rightB_d h
  simp only at hd
  refine (list_yes _ _ _ _ _ w h).mono ?_
  rintro r w' ⟨g, cap, hr, ⟨x, rfl⟩, ho⟩
  rw [show ((n : Int)).toNat = n by omega] at hr ho
  refine ⟨g, cap, x, hr, rfl, ho, fun j hj => own_cells ho j hj _ (pre_get _ 4 j (by omega) (by simp only; omega) (by simp only; omega))⟩

theorem ref_le_no (d a b c e d' a' b' c' e' : Int) (w : World) (h : (rightB ⟨d, a, b, c, e⟩ && rightB ⟨d', a', b', c', e'⟩) = false) :
    Calls Try.prog 100 #[.agg #[.int .i64 d, .int .i64 a, .int .i64 b, .int .i64 c, .int .i64 e], .agg #[.int .i64 d', .int .i64 a', .int .i64 b', .int .i64 c', .int .i64 e']] w
      fun r w' => r = .returned (.bool (leB ⟨d, a, b, c, e⟩ ⟨d', a', b', c', e'⟩)) ∧ Ext w w' := by
  cases h1 : rightB ⟨d, a, b, c, e⟩ <;> cases h2 : rightB ⟨d', a', b', c', e'⟩
  case true.true => simp [h1, h2] at h
  all_goals
    clear h
    have hr : leB ⟨d, a, b, c, e⟩ ⟨d', a', b', c', e'⟩ = false := by simp [leB, bothB, h1, h2]
    have HR := Lib.hid hr
    have H1 := Lib.hid h1
    have H2 := Lib.hid h2
    clear hr h1 h2
    go_enter Try.func100, Try.ntmps100
    go_wp2_with fail
    first | refine (list_no _ _ _ _ _ _ H1.out).mono ?_ | refine (list_yes _ _ _ _ _ _ H1.out).mono ?_
    first | (rintro r w' ⟨rfl, x, rfl⟩) | (rintro r w' ⟨g, cap, rfl, ⟨x, rfl⟩, ho⟩; clear ho)
    go_wp2_with fail
    first | refine (list_no _ _ _ _ _ _ H2.out).mono ?_ | refine (list_yes _ _ _ _ _ _ H2.out).mono ?_
    first | (rintro r w' ⟨rfl, y, rfl⟩) | (rintro r w' ⟨g', cap', rfl, ⟨y, rfl⟩, ho⟩; clear ho)
    go_wp2_with fail
    go_returns
    exact ⟨retb rfl HR.out.symm, by (repeat' (first | with_reducible exact Ext.refl _ | with_reducible refine Ext.ext ?_ _ | with_reducible refine Ext.alloc ?_ _ | with_reducible refine Ext.drew ?_ | with_reducible refine Ext.drewN ?_ _ | with_reducible assumption))⟩

theorem ref_less_no (d a b c e d' a' b' c' e' : Int) (w : World) (h : (rightB ⟨d, a, b, c, e⟩ && rightB ⟨d', a', b', c', e'⟩) = false) :
    Calls Try.prog 151 #[.agg #[.int .i64 d, .int .i64 a, .int .i64 b, .int .i64 c, .int .i64 e], .agg #[.int .i64 d', .int .i64 a', .int .i64 b', .int .i64 c', .int .i64 e']] w
      fun r w' => r = .returned (.bool (lessB ⟨d, a, b, c, e⟩ ⟨d', a', b', c', e'⟩)) ∧ Ext w w' := by
  cases h1 : rightB ⟨d, a, b, c, e⟩ <;> cases h2 : rightB ⟨d', a', b', c', e'⟩
  case true.true => simp [h1, h2] at h
  all_goals
    clear h
    have hr : lessB ⟨d, a, b, c, e⟩ ⟨d', a', b', c', e'⟩ = false := by simp [lessB, h1, h2]
    have HR := Lib.hid hr
    have H1 := Lib.hid h1
    have H2 := Lib.hid h2
    clear hr h1 h2
    go_enter Try.func151, Try.ntmps151
    go_wp2_with fail
    first | refine (list_no _ _ _ _ _ _ H1.out).mono ?_ | refine (list_yes _ _ _ _ _ _ H1.out).mono ?_
    first | (rintro r w' ⟨rfl, x, rfl⟩) | (rintro r w' ⟨g, cap, rfl, ⟨x, rfl⟩, ho⟩; clear ho)
    go_wp2_with fail
    first | refine (list_no _ _ _ _ _ _ H2.out).mono ?_ | refine (list_yes _ _ _ _ _ _ H2.out).mono ?_
    first | (rintro r w' ⟨rfl, y, rfl⟩) | (rintro r w' ⟨g', cap', rfl, ⟨y, rfl⟩, ho⟩; clear ho)
    go_wp2_with fail
    go_returns
    exact ⟨retb rfl HR.out.symm, by (repeat' (first | with_reducible exact Ext.refl _ | with_reducible refine Ext.ext ?_ _ | with_reducible refine Ext.alloc ?_ _ | with_reducible refine Ext.drew ?_ | with_reducible refine Ext.drewN ?_ _ | with_reducible assumption))⟩

theorem leB_at (s t : Tm) (hb : bothB s t = true) : leB s t = true ↔ ∀ k : Nat, (k : Int) < s.d → s.at k ≤ t.at k := by
  simp only [bothB, Bool.and_eq_true, decide_eq_true_eq] at hb
  obtain ⟨h1, h2, h3⟩ := hb
  have r1 := (rightB_iff _).1 h1
  have r2 := (rightB_iff _).1 h2
  simp only [leB, bothB, h1, h2, Bool.true_and, Bool.and_eq_true, decide_eq_true_eq]
  constructor
  · rintro ⟨_, ha, hb, hc, he⟩ k hk
    obtain rfl | rfl | rfl | rfl : k = 0 ∨ k = 1 ∨ k = 2 ∨ k = 3 := by omega
    all_goals assumption
  · intro h
    have k0 := h 0
    have k1 := h 1
    have k2 := h 2
    have k3 := h 3
    simp only [Tm.at, cAt] at k0 k1 k2 k3
    simp at k0 k1 k2 k3
    refine ⟨h3, ?_, ?_, ?_, ?_⟩ <;> omega

set_option maxHeartbeats 1000000 in
theorem ref_le_yes (n m : Nat) (a b c e a' b' c' e' : Int) (w : World) (h1 : rightB ⟨n, a, b, c, e⟩ = true) (h2 : rightB ⟨m, a', b', c', e'⟩ = true) :
    Calls Try.prog 100 #[.agg #[.int .i64 n, .int .i64 a, .int .i64 b, .int .i64 c, .int .i64 e], .agg #[.int .i64 m, .int .i64 a', .int .i64 b', .int .i64 c', .int .i64 e']] w
      fun r w' => r = .returned (.bool (leB ⟨n, a, b, c, e⟩ ⟨m, a', b', c', e'⟩)) ∧ Ext w w' := by
  by_cases hnm : n = m
  · subst hnm
    have hb : bothB ⟨n, a, b, c, e⟩ ⟨n, a', b', c', e'⟩ = true := by simp [bothB, h1, h2]
    have hle := Lib.hid (leB_at _ _ hb)
    clear hb
    have hd := rightB_d h1
    simp only at hd
    obtain ⟨q1, q2⟩ : 1 ≤ n ∧ n ≤ 4 := by omega
    have H1 := Lib.hid h1
    have H2 := Lib.hid h2
    clear h1 h2 hd
    go_enter Try.func100, Try.ntmps100
    go_wp2_with fail
    refine (list_n _ _ _ _ _ _ H1.out).mono ?_
    rintro r w' ⟨g, cap, x, rfl, rfl, -, hc1⟩
    have HC1 := Lib.hid hc1
    clear hc1
    go_wp2_with fail
    refine (list_n _ _ _ _ _ _ H2.out).mono ?_
    rintro r w' ⟨g', cap', y, rfl, rfl, -, hc2⟩
    have HC2 := Lib.hid hc2
    clear hc2
    go_wp2_with fail
    go_loopw [9] (fun i wr => ∃ k : Nat, k ≤ n ∧ i = .int .i64 k ∧ (∀ j : Nat, j < k → Tm.at ⟨n, a, b, c, e⟩ j ≤ Tm.at ⟨n, a', b', c', e'⟩ j) ∧ ∃ z, wr = ext ((w.alloc (.cells #[.int .i64 n, .int .i64 a, .int .i64 b, .int .i64 c, .int .i64 e] 73)).alloc (.cells #[.int .i64 n, .int .i64 a', .int .i64 b', .int .i64 c', .int .i64 e'] 73)) (x.add (y.add z)))
      (fun i _ => n - (intOf i).toNat)
    case atStart => exact ⟨0, Nat.zero_le _, rfl, fun j hj => absurd hj (by omega), ⟨[], y.n⟩, by rw [add_unit]⟩
    case round =>
      obtain ⟨k, hk, rfl, hrel, z, rfl⟩ := hrel
      have HREL := Lib.hid hrel
      clear hrel
      by_cases hlt : k < n
      · have f1 := fun u => cell_add (HC1.out k hlt) (y.add u)
        have f2 := fun u => cell_add (HC2.out k hlt) u
        simp only [ext_ext, add_assoc] at f2
        go_wp2_with fail
        refine wp_region_ext (by kernel_rfl) (by kernel_rfl) ?_
        repeat (go_big_quiet_step (fail))
        refine wpQuiet_nil ?_
        intro xK
        go_wp2_with fail
        · go_returns
          refine ⟨retb rfl ?_, by (repeat' (first | with_reducible exact Ext.refl _ | with_reducible refine Ext.ext ?_ _ | with_reducible refine Ext.alloc ?_ _ | with_reducible refine Ext.drew ?_ | with_reducible refine Ext.drewN ?_ _ | with_reducible assumption))⟩
          symm
          rw [← Bool.not_eq_true, hle.out]
          intro h
          have := h k (by omega)
          omega
        · refine ⟨⟨k + 1, by omega, by go_num, fun j hj => ?_, _, rfl⟩, by simp [intOf]; omega⟩
          by_cases hjk : j = k
          · subst hjk; assumption
          · exact HREL.out j (by omega)
      · obtain rfl : k = n := by omega
        go_wp2_with fail
        go_returns
        exact ⟨retb rfl (hle.out.2 fun j hj => HREL.out j (by omega)).symm, by (repeat' (first | with_reducible exact Ext.refl _ | with_reducible refine Ext.ext ?_ _ | with_reducible refine Ext.alloc ?_ _ | with_reducible refine Ext.drew ?_ | with_reducible refine Ext.drewN ?_ _ | with_reducible assumption))⟩
  · have hl : leB ⟨n, a, b, c, e⟩ ⟨m, a', b', c', e'⟩ = false := by simp [leB, bothB]; omega
    have hne : ((n : Int) != (m : Int)) = true := by simp; omega
    have HL := Lib.hid hl
    have H1 := Lib.hid h1
    have H2 := Lib.hid h2
    clear h1 h2 hl hnm
    go_enter Try.func100, Try.ntmps100
    go_wp2_with fail
    refine (list_n _ _ _ _ _ _ H1.out).mono ?_
    rintro r w' ⟨g, cap, x, rfl, rfl, -, -⟩
    go_wp2_with fail
    refine (list_n _ _ _ _ _ _ H2.out).mono ?_
    rintro r w' ⟨g', cap', y, rfl, rfl, -, -⟩
    go_wp2_with fail
    go_returns
    exact ⟨retb rfl HL.out.symm, by (repeat' (first | with_reducible exact Ext.refl _ | with_reducible refine Ext.ext ?_ _ | with_reducible refine Ext.alloc ?_ _ | with_reducible refine Ext.drew ?_ | with_reducible refine Ext.drewN ?_ _ | with_reducible assumption))⟩

/-- What decides which one is less: the first k coordinates alike. -/
theorem lessC_eq (s t : Tm) : ∀ n : Int, n ≤ 4 → (∀ j : Nat, (j : Int) < n → s.at j = t.at j) → lessC s t n = none
  | n, hn, h => by
    have k0 := h 0
    have k1 := h 1
    have k2 := h 2
    have k3 := h 3
    simp only [Tm.at, cAt] at k0 k1 k2 k3
    simp at k0 k1 k2 k3
    unfold lessC
    repeat' split
    all_goals first | rfl | (exfalso; simp_all; omega) | (exfalso; simp_all; done)
theorem lessC_at (s t : Tm) (n : Int) (k : Nat) (hk : (k : Int) < n) (hn : n ≤ 4) (he : ∀ j : Nat, j < k → s.at j = t.at j) (hne : s.at k ≠ t.at k) : lessC s t n = some (decide (s.at k < t.at k)) := by
  have k0 := he 0
  have k1 := he 1
  have k2 := he 2
  change 0 < k → s.a = t.a at k0
  change 1 < k → s.b = t.b at k1
  change 2 < k → s.c = t.c at k2
  unfold lessC
  obtain rfl | rfl | rfl | rfl : k = 0 ∨ k = 1 ∨ k = 2 ∨ k = 3 := by omega
  · change s.a ≠ t.a at hne
    rw [if_neg (by omega), if_pos (bne_iff_ne.2 hne)]; rfl
  · change s.b ≠ t.b at hne
    rw [if_neg (by omega), if_neg (by rw [k0 (by omega)]; simp), if_neg (by omega), if_pos (bne_iff_ne.2 hne)]; rfl
  · change s.c ≠ t.c at hne
    rw [if_neg (by omega), if_neg (by rw [k0 (by omega)]; simp), if_neg (by omega), if_neg (by rw [k1 (by omega)]; simp), if_neg (by omega), if_pos (bne_iff_ne.2 hne)]; rfl
  · change s.e ≠ t.e at hne
    rw [if_neg (by omega), if_neg (by rw [k0 (by omega)]; simp), if_neg (by omega), if_neg (by rw [k1 (by omega)]; simp), if_neg (by omega), if_neg (by rw [k2 (by omega)]; simp), if_neg (by omega), if_pos (bne_iff_ne.2 hne)]; rfl

set_option maxHeartbeats 1000000 in
theorem ref_less_yes (n m : Nat) (a b c e a' b' c' e' : Int) (w : World) (h1 : rightB ⟨n, a, b, c, e⟩ = true) (h2 : rightB ⟨m, a', b', c', e'⟩ = true) :
    Calls Try.prog 151 #[.agg #[.int .i64 n, .int .i64 a, .int .i64 b, .int .i64 c, .int .i64 e], .agg #[.int .i64 m, .int .i64 a', .int .i64 b', .int .i64 c', .int .i64 e']] w
      fun r w' => r = .returned (.bool (lessB ⟨n, a, b, c, e⟩ ⟨m, a', b', c', e'⟩)) ∧ Ext w w' := by
  have hl : lessB ⟨n, a, b, c, e⟩ ⟨m, a', b', c', e'⟩ = (lessC ⟨n, a, b, c, e⟩ ⟨m, a', b', c', e'⟩ (min (n : Int) (m : Int))).getD (decide ((n : Int) < m)) := by simp only [lessB, h1, h2, Bool.true_and]
  have HL := Lib.hid hl
  have hd := rightB_d h1
  have hd' := rightB_d h2
  simp only at hd hd'
  obtain ⟨q1, q2, q3, q4⟩ : 1 ≤ n ∧ n ≤ 4 ∧ 1 ≤ m ∧ m ≤ 4 := by omega
  have H1 := Lib.hid h1
  have H2 := Lib.hid h2
  clear h1 h2 hd hd' hl
  go_enter Try.func151, Try.ntmps151
  go_wp2_with fail
  refine (list_n _ _ _ _ _ _ H1.out).mono ?_
  rintro r w' ⟨g, cap, x, rfl, rfl, -, hc1⟩
  have HC1 := Lib.hid hc1
  clear hc1
  go_wp2_with fail
  refine (list_n _ _ _ _ _ _ H2.out).mono ?_
  rintro r w' ⟨g', cap', y, rfl, rfl, -, hc2⟩
  have HC2 := Lib.hid hc2
  clear hc2
  go_wp2_with fail
  go_loopw [9] (fun i wr => ∃ k : Nat, k ≤ n ∧ k ≤ m ∧ i = .int .i64 k ∧ (∀ j : Nat, j < k → Tm.at ⟨n, a, b, c, e⟩ j = Tm.at ⟨m, a', b', c', e'⟩ j) ∧ ∃ z, wr = ext ((w.alloc (.cells #[.int .i64 n, .int .i64 a, .int .i64 b, .int .i64 c, .int .i64 e] 73)).alloc (.cells #[.int .i64 m, .int .i64 a', .int .i64 b', .int .i64 c', .int .i64 e'] 73)) (x.add (y.add z)))
    (fun i _ => n - (intOf i).toNat)
  case atStart => exact ⟨0, Nat.zero_le _, Nat.zero_le _, rfl, fun j hj => absurd hj (by omega), ⟨[], y.n⟩, by rw [add_unit]⟩
  case round =>
    obtain ⟨k, hk, hkm, rfl, hrel, z, rfl⟩ := hrel
    have HREL := Lib.hid hrel
    clear hrel
    by_cases hlt : k < n
    · by_cases hltm : k < m
      · have f1 := fun u => cell_add (HC1.out k hlt) (y.add u)
        have f2 := fun u => cell_add (HC2.out k hltm) u
        simp only [ext_ext, add_assoc] at f2
        have hkb : ((k : Int) == (m : Int)) = false := by simp; omega
        go_wp2_with fail
        refine wp_region_ext (by kernel_rfl) (by kernel_rfl) ?_
        repeat (go_big_quiet_step (fail))
        refine wpQuiet_nil ?_
        intro xK
        go_wp2_with fail
        · go_returns
          refine ⟨retb rfl ?_, by (repeat' (first | with_reducible exact Ext.refl _ | with_reducible refine Ext.ext ?_ _ | with_reducible refine Ext.alloc ?_ _ | with_reducible refine Ext.drew ?_ | with_reducible refine Ext.drewN ?_ _ | with_reducible assumption))⟩
          symm
          rw [HL.out, lessC_at _ _ _ k (by omega) (by omega) HREL.out (by omega)]
          simp
          omega
        · refine wp_region_ext (by kernel_rfl) (by kernel_rfl) ?_
          repeat (go_big_quiet_step (fail))
          refine wpQuiet_nil ?_
          intro xK
          go_wp2_with fail
          · go_returns
            refine ⟨retb rfl ?_, by (repeat' (first | with_reducible exact Ext.refl _ | with_reducible refine Ext.ext ?_ _ | with_reducible refine Ext.alloc ?_ _ | with_reducible refine Ext.drew ?_ | with_reducible refine Ext.drewN ?_ _ | with_reducible assumption))⟩
            symm
            rw [HL.out, lessC_at _ _ _ k (by omega) (by omega) HREL.out (by omega)]
            simp
            omega
          · refine ⟨⟨k + 1, by omega, by omega, by go_num, fun j hj => ?_, _, rfl⟩, by simp [intOf]; omega⟩
            by_cases hjk : j = k
            · subst hjk; omega
            · exact HREL.out j (by omega)
      · obtain rfl : k = m := by omega
        have hkb : ((k : Int) == (k : Int)) = true := by simp
        go_wp2_with fail
        refine wp_region_ext (by kernel_rfl) (by kernel_rfl) ?_
        repeat (go_big_quiet_step (fail))
        refine wpQuiet_nil ?_
        intro xK
        go_wp2_with fail
        go_returns
        refine ⟨retb rfl ?_, by (repeat' (first | with_reducible exact Ext.refl _ | with_reducible refine Ext.ext ?_ _ | with_reducible refine Ext.alloc ?_ _ | with_reducible refine Ext.drew ?_ | with_reducible refine Ext.drewN ?_ _ | with_reducible assumption))⟩
        symm
        rw [HL.out, lessC_eq _ _ _ (by omega) (fun j hj => HREL.out j (by omega))]
        simp
        omega
    · obtain rfl : k = n := by omega
      go_wp2_with fail
      go_returns
      refine ⟨retb rfl ?_, by (repeat' (first | with_reducible exact Ext.refl _ | with_reducible refine Ext.ext ?_ _ | with_reducible refine Ext.alloc ?_ _ | with_reducible refine Ext.drew ?_ | with_reducible refine Ext.drewN ?_ _ | with_reducible assumption))⟩
      symm
      rw [HL.out, lessC_eq _ _ _ (by omega) (fun j hj => HREL.out j (by omega))]
      simp

theorem ref_le_any (d a b c e d' a' b' c' e' : Int) (w : World) :
    Calls Try.prog 100 #[.agg #[.int .i64 d, .int .i64 a, .int .i64 b, .int .i64 c, .int .i64 e], .agg #[.int .i64 d', .int .i64 a', .int .i64 b', .int .i64 c', .int .i64 e']] w
      fun r w' => r = .returned (.bool (leB ⟨d, a, b, c, e⟩ ⟨d', a', b', c', e'⟩)) ∧ Ext w w' := by
  by_cases h : (rightB ⟨d, a, b, c, e⟩ && rightB ⟨d', a', b', c', e'⟩) = true
  · rw [Bool.and_eq_true] at h
    obtain ⟨n, rfl⟩ := Int.eq_ofNat_of_zero_le (show 0 ≤ d by have := (rightB_d h.1).1; simp only at this; omega)
    obtain ⟨m, rfl⟩ := Int.eq_ofNat_of_zero_le (show 0 ≤ d' by have := (rightB_d h.2).1; simp only at this; omega)
    exact ref_le_yes n m a b c e a' b' c' e' w h.1 h.2
  · exact ref_le_no _ _ _ _ _ _ _ _ _ _ w (by simpa using h)
theorem ref_less_any (d a b c e d' a' b' c' e' : Int) (w : World) :
    Calls Try.prog 151 #[.agg #[.int .i64 d, .int .i64 a, .int .i64 b, .int .i64 c, .int .i64 e], .agg #[.int .i64 d', .int .i64 a', .int .i64 b', .int .i64 c', .int .i64 e']] w
      fun r w' => r = .returned (.bool (lessB ⟨d, a, b, c, e⟩ ⟨d', a', b', c', e'⟩)) ∧ Ext w w' := by
  by_cases h : (rightB ⟨d, a, b, c, e⟩ && rightB ⟨d', a', b', c', e'⟩) = true
  · rw [Bool.and_eq_true] at h
    obtain ⟨n, rfl⟩ := Int.eq_ofNat_of_zero_le (show 0 ≤ d by have := (rightB_d h.1).1; simp only at this; omega)
    obtain ⟨m, rfl⟩ := Int.eq_ofNat_of_zero_le (show 0 ≤ d' by have := (rightB_d h.2).1; simp only at this; omega)
    exact ref_less_yes n m a b c e a' b' c' e' w h.1 h.2
  · exact ref_less_no _ _ _ _ _ _ _ _ _ _ w (by simpa using h)
end Go.Proofs.Ytkmgdejpdhlleaa

/- The reference's lists of coordinates, and back. -/
import Derived.Test.YtkmgdejpdhlleaaRef1
import Derived.Test.YtkmgdejpdhlleaaApp
namespace Go.Proofs.Ytkmgdejpdhlleaa
set_option linter.unusedSimpArgs false
set_option linter.unusedVariables false
set_option maxRecDepth 100000
open Go.RowKit

theorem own_add {w : World} {x : Inc} {b : Nat} {e : TypeId} {size n : Nat} {v : Value} {xs : List Value} (h : (ext w x).ownsRow b e size v n xs) (y : Inc) : (ext w (x.add y)).ownsRow b e size v n xs := by
  rw [← ext_ext]
  exact own_ext h y
theorem pre_get (t : Tm) : ∀ (k j : Nat), j < k → (j : Int) < t.d → 0 ≤ t.d → (pre t k)[j]? = some (t.at j)
  | 0, _, h, _, _ => absurd h (by omega)
  | k + 1, j, h, hj, h0 => by
    have hl := pre_len t h0 k
    by_cases hk : j = k
    · subst hk
      rw [pre_in t j hj, List.getElem?_append_right (by omega), show j - (pre t j).length = 0 by omega]
      rfl
    · have ih := pre_get t k j (by omega) hj h0
      by_cases hd : (k : Int) < t.d
      · rw [pre_in t k hd, List.getElem?_append_left (by omega), ih]
      · rw [pre_out t k (by omega), ih]
theorem add_unit (y : Inc) : y.add ⟨[], y.n⟩ = y := by simp [Inc.add]
/-- The list of a right timestamp, its coordinates as cells, however the world grows on. -/
theorem list_n (n : Nat) (a b c e : Int) (w : World) (h : rightB ⟨n, a, b, c, e⟩ = true) :
    Calls Try.prog 142 #[.agg #[.int .i64 n, .int .i64 a, .int .i64 b, .int .i64 c, .int .i64 e]] w fun r w' => ∃ g cap x, r = .returned (.tuple #[.slice (some ⟨g, 0, none⟩) n cap, .bool true]) ∧ w' = ext w x ∧
      (ext w x).ownsRow w.heap.size 3 1 (.slice (some ⟨g, 0, none⟩) n cap) n (ints (pre ⟨n, a, b, c, e⟩ 4)) ∧
      ∀ j : Nat, j < n → (ext w x).cell? ⟨g, j, none⟩ = some (.int .i64 (Tm.at ⟨n, a, b, c, e⟩ j)) := by
  have hd := rightB_d h
  simp only at hd
  refine (list_yes _ _ _ _ _ w h).mono ?_
  rintro r w' ⟨g, cap, hr, ⟨x, rfl⟩, ho⟩
  rw [show ((n : Int)).toNat = n by omega] at hr ho
  refine ⟨g, cap, x, hr, rfl, ho, fun j hj => own_cells ho j hj _ (pre_get _ 4 j (by omega) (by simp only; omega) (by simp only; omega))⟩

theorem ref_le_no (d a b c e d' a' b' c' e' : Int) (w : World) (h : (rightB ⟨d, a, b, c, e⟩ && rightB ⟨d', a', b', c', e'⟩) = false) :
    Calls Try.prog 100 #[.agg #[.int .i64 d, .int .i64 a, .int .i64 b, .int .i64 c, .int .i64 e], .agg #[.int .i64 d', .int .i64 a', .int .i64 b', .int .i64 c', .int .i64 e']] w
      fun r w' => r = .returned (.bool (leB ⟨d, a, b, c, e⟩ ⟨d', a', b', c', e'⟩)) ∧ Ext w w' := by
  cases h1 : rightB ⟨d, a, b, c, e⟩ <;> cases h2 : rightB ⟨d', a', b', c', e'⟩
  case true.true => simp [h1, h2] at h
  all_goals
    clear h
    have hr : leB ⟨d, a, b, c, e⟩ ⟨d', a', b', c', e'⟩ = false := by simp [leB, bothB, h1, h2]
    have HR := Lib.hid hr
    have H1 := Lib.hid h1
    have H2 := Lib.hid h2
    clear hr h1 h2
    go_enter Try.func100, Try.ntmps100
    go_wp2_with fail
    first | refine (list_no _ _ _ _ _ _ H1.out).mono ?_ | refine (list_yes _ _ _ _ _ _ H1.out).mono ?_
    first | (rintro r w' ⟨rfl, x, rfl⟩) | (rintro r w' ⟨g, cap, rfl, ⟨x, rfl⟩, ho⟩; clear ho)
    go_wp2_with fail
    first | refine (list_no _ _ _ _ _ _ H2.out).mono ?_ | refine (list_yes _ _ _ _ _ _ H2.out).mono ?_
    first | (rintro r w' ⟨rfl, y, rfl⟩) | (rintro r w' ⟨g', cap', rfl, ⟨y, rfl⟩, ho⟩; clear ho)
    go_wp2_with fail
    go_returns
    exact ⟨retb rfl HR.out.symm, by (repeat' (first | with_reducible exact Ext.refl _ | with_reducible refine Ext.ext ?_ _ | with_reducible refine Ext.alloc ?_ _ | with_reducible refine Ext.drew ?_ | with_reducible refine Ext.drewN ?_ _ | with_reducible assumption))⟩

theorem ref_less_no (d a b c e d' a' b' c' e' : Int) (w : World) (h : (rightB ⟨d, a, b, c, e⟩ && rightB ⟨d', a', b', c', e'⟩) = false) :
    Calls Try.prog 151 #[.agg #[.int .i64 d, .int .i64 a, .int .i64 b, .int .i64 c, .int .i64 e], .agg #[.int .i64 d', .int .i64 a', .int .i64 b', .int .i64 c', .int .i64 e']] w
      fun r w' => r = .returned (.bool (lessB ⟨d, a, b, c, e⟩ ⟨d', a', b', c', e'⟩)) ∧ Ext w w' := by
  cases h1 : rightB ⟨d, a, b, c, e⟩ <;> cases h2 : rightB ⟨d', a', b', c', e'⟩
  case true.true => simp [h1, h2] at h
  all_goals
    clear h
    have hr : lessB ⟨d, a, b, c, e⟩ ⟨d', a', b', c', e'⟩ = false := by simp [lessB, h1, h2]
    have HR := Lib.hid hr
    have H1 := Lib.hid h1
    have H2 := Lib.hid h2
    clear hr h1 h2
    go_enter Try.func151, Try.ntmps151
    go_wp2_with fail
    first | refine (list_no _ _ _ _ _ _ H1.out).mono ?_ | refine (list_yes _ _ _ _ _ _ H1.out).mono ?_
    first | (rintro r w' ⟨rfl, x, rfl⟩) | (rintro r w' ⟨g, cap, rfl, ⟨x, rfl⟩, ho⟩; clear ho)
    go_wp2_with fail
    first | refine (list_no _ _ _ _ _ _ H2.out).mono ?_ | refine (list_yes _ _ _ _ _ _ H2.out).mono ?_
    first | (rintro r w' ⟨rfl, y, rfl⟩) | (rintro r w' ⟨g', cap', rfl, ⟨y, rfl⟩, ho⟩; clear ho)
    go_wp2_with fail
    go_returns
    exact ⟨retb rfl HR.out.symm, by (repeat' (first | with_reducible exact Ext.refl _ | with_reducible refine Ext.ext ?_ _ | with_reducible refine Ext.alloc ?_ _ | with_reducible refine Ext.drew ?_ | with_reducible refine Ext.drewN ?_ _ | with_reducible assumption))⟩

theorem leB_at (s t : Tm) (hb : bothB s t = true) : leB s t = true ↔ ∀ k : Nat, (k : Int) < s.d → s.at k ≤ t.at k := by
  simp only [bothB, Bool.and_eq_true, decide_eq_true_eq] at hb
  obtain ⟨h1, h2, h3⟩ := hb
  have r1 := (rightB_iff _).1 h1
  have r2 := (rightB_iff _).1 h2
  simp only [leB, bothB, h1, h2, Bool.true_and, Bool.and_eq_true, decide_eq_true_eq]
  constructor
  · rintro ⟨_, ha, hb, hc, he⟩ k hk
    obtain rfl | rfl | rfl | rfl : k = 0 ∨ k = 1 ∨ k = 2 ∨ k = 3 := by omega
    all_goals assumption
  · intro h
    have k0 := h 0
    have k1 := h 1
    have k2 := h 2
    have k3 := h 3
    simp only [Tm.at, cAt] at k0 k1 k2 k3
    simp at k0 k1 k2 k3
    refine ⟨h3, ?_, ?_, ?_, ?_⟩ <;> omega

set_option maxHeartbeats 1000000 in
theorem ref_le_yes (n m : Nat) (a b c e a' b' c' e' : Int) (w : World) (h1 : rightB ⟨n, a, b, c, e⟩ = true) (h2 : rightB ⟨m, a', b', c', e'⟩ = true) :
    Calls Try.prog 100 #[.agg #[.int .i64 n, .int .i64 a, .int .i64 b, .int .i64 c, .int .i64 e], .agg #[.int .i64 m, .int .i64 a', .int .i64 b', .int .i64 c', .int .i64 e']] w
      fun r w' => r = .returned (.bool (leB ⟨n, a, b, c, e⟩ ⟨m, a', b', c', e'⟩)) ∧ Ext w w' := by
  by_cases hnm : n = m
  · subst hnm
    have hb : bothB ⟨n, a, b, c, e⟩ ⟨n, a', b', c', e'⟩ = true := by simp [bothB, h1, h2]
    have hle := Lib.hid (leB_at _ _ hb)
    clear hb
    have hd := rightB_d h1
    simp only at hd
    obtain ⟨q1, q2⟩ : 1 ≤ n ∧ n ≤ 4 := by omega
    have H1 := Lib.hid h1
    have H2 := Lib.hid h2
    clear h1 h2 hd
    go_enter Try.func100, Try.ntmps100
    go_wp2_with fail
    refine (list_n _ _ _ _ _ _ H1.out).mono ?_
    rintro r w' ⟨g, cap, x, rfl, rfl, -, hc1⟩
    have HC1 := Lib.hid hc1
    clear hc1
    go_wp2_with fail
    refine (list_n _ _ _ _ _ _ H2.out).mono ?_
    rintro r w' ⟨g', cap', y, rfl, rfl, -, hc2⟩
    have HC2 := Lib.hid hc2
    clear hc2
    go_wp2_with fail
    go_loopw [9] (fun i wr => ∃ k : Nat, k ≤ n ∧ i = .int .i64 k ∧ (∀ j : Nat, j < k → Tm.at ⟨n, a, b, c, e⟩ j ≤ Tm.at ⟨n, a', b', c', e'⟩ j) ∧ ∃ z, wr = ext ((w.alloc (.cells #[.int .i64 n, .int .i64 a, .int .i64 b, .int .i64 c, .int .i64 e] 73)).alloc (.cells #[.int .i64 n, .int .i64 a', .int .i64 b', .int .i64 c', .int .i64 e'] 73)) (x.add (y.add z)))
      (fun i _ => n - (intOf i).toNat)
    case atStart => exact ⟨0, Nat.zero_le _, rfl, fun j hj => absurd hj (by omega), ⟨[], y.n⟩, by rw [add_unit]⟩
    case round =>
      obtain ⟨k, hk, rfl, hrel, z, rfl⟩ := hrel
      have HREL := Lib.hid hrel
      clear hrel
      by_cases hlt : k < n
      · have f1 := fun u => cell_add (HC1.out k hlt) (y.add u)
        have f2 := fun u => cell_add (HC2.out k hlt) u
        simp only [ext_ext, add_assoc] at f2
        go_wp2_with fail
        refine wp_region_ext (by kernel_rfl) (by kernel_rfl) ?_
        repeat (go_big_quiet_step (fail))
        refine wpQuiet_nil ?_
        intro xK
        go_wp2_with fail
        · go_returns
          refine ⟨retb rfl ?_, by (repeat' (first | with_reducible exact Ext.refl _ | with_reducible refine Ext.ext ?_ _ | with_reducible refine Ext.alloc ?_ _ | with_reducible refine Ext.drew ?_ | with_reducible refine Ext.drewN ?_ _ | with_reducible assumption))⟩
          symm
          rw [← Bool.not_eq_true, hle.out]
          intro h
          have := h k (by omega)
          omega
        · refine ⟨⟨k + 1, by omega, by go_num, fun j hj => ?_, _, rfl⟩, by simp [intOf]; omega⟩
          by_cases hjk : j = k
          · subst hjk; assumption
          · exact HREL.out j (by omega)
      · obtain rfl : k = n := by omega
        go_wp2_with fail
        go_returns
        exact ⟨retb rfl (hle.out.2 fun j hj => HREL.out j (by omega)).symm, by (repeat' (first | with_reducible exact Ext.refl _ | with_reducible refine Ext.ext ?_ _ | with_reducible refine Ext.alloc ?_ _ | with_reducible refine Ext.drew ?_ | with_reducible refine Ext.drewN ?_ _ | with_reducible assumption))⟩
  · have hl : leB ⟨n, a, b, c, e⟩ ⟨m, a', b', c', e'⟩ = false := by simp [leB, bothB]; omega
    have hne : ((n : Int) != (m : Int)) = true := by simp; omega
    have HL := Lib.hid hl
    have H1 := Lib.hid h1
    have H2 := Lib.hid h2
    clear h1 h2 hl hnm
    go_enter Try.func100, Try.ntmps100
    go_wp2_with fail
    refine (list_n _ _ _ _ _ _ H1.out).mono ?_
    rintro r w' ⟨g, cap, x, rfl, rfl, -, -⟩
    go_wp2_with fail
    refine (list_n _ _ _ _ _ _ H2.out).mono ?_
    rintro r w' ⟨g', cap', y, rfl, rfl, -, -⟩
    go_wp2_with fail
    go_returns
    exact ⟨retb rfl HL.out.symm, by (repeat' (first | with_reducible exact Ext.refl _ | with_reducible refine Ext.ext ?_ _ | with_reducible refine Ext.alloc ?_ _ | with_reducible refine Ext.drew ?_ | with_reducible refine Ext.drewN ?_ _ | with_reducible assumption))⟩

/-- What decides which one is less: the first k coordinates alike. -/
theorem lessC_eq (s t : Tm) : ∀ n : Int, n ≤ 4 → (∀ j : Nat, (j : Int) < n → s.at j = t.at j) → lessC s t n = none
  | n, hn, h => by
    have k0 := h 0
    have k1 := h 1
    have k2 := h 2
    have k3 := h 3
    simp only [Tm.at, cAt] at k0 k1 k2 k3
    simp at k0 k1 k2 k3
    unfold lessC
    repeat' split
    all_goals first | rfl | (exfalso; simp_all; omega) | (exfalso; simp_all; done)
theorem lessC_at (s t : Tm) (n : Int) (k : Nat) (hk : (k : Int) < n) (hn : n ≤ 4) (he : ∀ j : Nat, j < k → s.at j = t.at j) (hne : s.at k ≠ t.at k) : lessC s t n = some (decide (s.at k < t.at k)) := by
  have k0 := he 0
  have k1 := he 1
  have k2 := he 2
  change 0 < k → s.a = t.a at k0
  change 1 < k → s.b = t.b at k1
  change 2 < k → s.c = t.c at k2
  unfold lessC
  obtain rfl | rfl | rfl | rfl : k = 0 ∨ k = 1 ∨ k = 2 ∨ k = 3 := by omega
  · change s.a ≠ t.a at hne
    rw [if_neg (by omega), if_pos (bne_iff_ne.2 hne)]; rfl
  · change s.b ≠ t.b at hne
    rw [if_neg (by omega), if_neg (by rw [k0 (by omega)]; simp), if_neg (by omega), if_pos (bne_iff_ne.2 hne)]; rfl
  · change s.c ≠ t.c at hne
    rw [if_neg (by omega), if_neg (by rw [k0 (by omega)]; simp), if_neg (by omega), if_neg (by rw [k1 (by omega)]; simp), if_neg (by omega), if_pos (bne_iff_ne.2 hne)]; rfl
  · change s.e ≠ t.e at hne
    rw [if_neg (by omega), if_neg (by rw [k0 (by omega)]; simp), if_neg (by omega), if_neg (by rw [k1 (by omega)]; simp), if_neg (by omega), if_neg (by rw [k2 (by omega)]; simp), if_neg (by omega), if_pos (bne_iff_ne.2 hne)]; rfl

set_option maxHeartbeats 1000000 in
theorem ref_less_yes (n m : Nat) (a b c e a' b' c' e' : Int) (w : World) (h1 : rightB ⟨n, a, b, c, e⟩ = true) (h2 : rightB ⟨m, a', b', c', e'⟩ = true) :
    Calls Try.prog 151 #[.agg #[.int .i64 n, .int .i64 a, .int .i64 b, .int .i64 c, .int .i64 e], .agg #[.int .i64 m, .int .i64 a', .int .i64 b', .int .i64 c', .int .i64 e']] w
      fun r w' => r = .returned (.bool (lessB ⟨n, a, b, c, e⟩ ⟨m, a', b', c', e'⟩)) ∧ Ext w w' := by
  have hl : lessB ⟨n, a, b, c, e⟩ ⟨m, a', b', c', e'⟩ = (lessC ⟨n, a, b, c, e⟩ ⟨m, a', b', c', e'⟩ (min (n : Int) (m : Int))).getD (decide ((n : Int) < m)) := by simp only [lessB, h1, h2, Bool.true_and]
  have HL := Lib.hid hl
  have hd := rightB_d h1
  have hd' := rightB_d h2
  simp only at hd hd'
  obtain ⟨q1, q2, q3, q4⟩ : 1 ≤ n ∧ n ≤ 4 ∧ 1 ≤ m ∧ m ≤ 4 := by omega
  have H1 := Lib.hid h1
  have H2 := Lib.hid h2
  clear h1 h2 hd hd' hl
  go_enter Try.func151, Try.ntmps151
  go_wp2_with fail
  refine (list_n _ _ _ _ _ _ H1.out).mono ?_
  rintro r w' ⟨g, cap, x, rfl, rfl, -, hc1⟩
  have HC1 := Lib.hid hc1
  clear hc1
  go_wp2_with fail
  refine (list_n _ _ _ _ _ _ H2.out).mono ?_
  rintro r w' ⟨g', cap', y, rfl, rfl, -, hc2⟩
  have HC2 := Lib.hid hc2
  clear hc2
  go_wp2_with fail
  go_loopw [9] (fun i wr => ∃ k : Nat, k ≤ n ∧ k ≤ m ∧ i = .int .i64 k ∧ (∀ j : Nat, j < k → Tm.at ⟨n, a, b, c, e⟩ j = Tm.at ⟨m, a', b', c', e'⟩ j) ∧ ∃ z, wr = ext ((w.alloc (.cells #[.int .i64 n, .int .i64 a, .int .i64 b, .int .i64 c, .int .i64 e] 73)).alloc (.cells #[.int .i64 m, .int .i64 a', .int .i64 b', .int .i64 c', .int .i64 e'] 73)) (x.add (y.add z)))
    (fun i _ => n - (intOf i).toNat)
  case atStart => exact ⟨0, Nat.zero_le _, Nat.zero_le _, rfl, fun j hj => absurd hj (by omega), ⟨[], y.n⟩, by rw [add_unit]⟩
  case round =>
    obtain ⟨k, hk, hkm, rfl, hrel, z, rfl⟩ := hrel
    have HREL := Lib.hid hrel
    clear hrel
    by_cases hlt : k < n
    · by_cases hltm : k < m
      · have f1 := fun u => cell_add (HC1.out k hlt) (y.add u)
        have f2 := fun u => cell_add (HC2.out k hltm) u
        simp only [ext_ext, add_assoc] at f2
        have hkb : ((k : Int) == (m : Int)) = false := by simp; omega
        go_wp2_with fail
        refine wp_region_ext (by kernel_rfl) (by kernel_rfl) ?_
        repeat (go_big_quiet_step (fail))
        refine wpQuiet_nil ?_
        intro xK
        go_wp2_with fail
        · go_returns
          refine ⟨retb rfl ?_, by (repeat' (first | with_reducible exact Ext.refl _ | with_reducible refine Ext.ext ?_ _ | with_reducible refine Ext.alloc ?_ _ | with_reducible refine Ext.drew ?_ | with_reducible refine Ext.drewN ?_ _ | with_reducible assumption))⟩
          symm
          rw [HL.out, lessC_at _ _ _ k (by omega) (by omega) HREL.out (by omega)]
          simp
          omega
        · refine wp_region_ext (by kernel_rfl) (by kernel_rfl) ?_
          repeat (go_big_quiet_step (fail))
          refine wpQuiet_nil ?_
          intro xK
          go_wp2_with fail
          · go_returns
            refine ⟨retb rfl ?_, by (repeat' (first | with_reducible exact Ext.refl _ | with_reducible refine Ext.ext ?_ _ | with_reducible refine Ext.alloc ?_ _ | with_reducible refine Ext.drew ?_ | with_reducible refine Ext.drewN ?_ _ | with_reducible assumption))⟩
            symm
            rw [HL.out, lessC_at _ _ _ k (by omega) (by omega) HREL.out (by omega)]
            simp
            omega
          · refine ⟨⟨k + 1, by omega, by omega, by go_num, fun j hj => ?_, _, rfl⟩, by simp [intOf]; omega⟩
            by_cases hjk : j = k
            · subst hjk; omega
            · exact HREL.out j (by omega)
      · obtain rfl : k = m := by omega
        have hkb : ((k : Int) == (k : Int)) = true := by simp
        go_wp2_with fail
        refine wp_region_ext (by kernel_rfl) (by kernel_rfl) ?_
        repeat (go_big_quiet_step (fail))
        refine wpQuiet_nil ?_
        intro xK
        go_wp2_with fail
        go_returns
        refine ⟨retb rfl ?_, by (repeat' (first | with_reducible exact Ext.refl _ | with_reducible refine Ext.ext ?_ _ | with_reducible refine Ext.alloc ?_ _ | with_reducible refine Ext.drew ?_ | with_reducible refine Ext.drewN ?_ _ | with_reducible assumption))⟩
        symm
        rw [HL.out, lessC_eq _ _ _ (by omega) (fun j hj => HREL.out j (by omega))]
        simp
        omega
    · obtain rfl : k = n := by omega
      go_wp2_with fail
      go_returns
      refine ⟨retb rfl ?_, by (repeat' (first | with_reducible exact Ext.refl _ | with_reducible refine Ext.ext ?_ _ | with_reducible refine Ext.alloc ?_ _ | with_reducible refine Ext.drew ?_ | with_reducible refine Ext.drewN ?_ _ | with_reducible assumption))⟩
      symm
      rw [HL.out, lessC_eq _ _ _ (by omega) (fun j hj => HREL.out j (by omega))]
      simp

theorem ref_le_any (d a b c e d' a' b' c' e' : Int) (w : World) :
    Calls Try.prog 100 #[.agg #[.int .i64 d, .int .i64 a, .int .i64 b, .int .i64 c, .int .i64 e], .agg #[.int .i64 d', .int .i64 a', .int .i64 b', .int .i64 c', .int .i64 e']] w
      fun r w' => r = .returned (.bool (leB ⟨d, a, b, c, e⟩ ⟨d', a', b', c', e'⟩)) ∧ Ext w w' := by
  by_cases h : (rightB ⟨d, a, b, c, e⟩ && rightB ⟨d', a', b', c', e'⟩) = true
  · rw [Bool.and_eq_true] at h
    obtain ⟨n, rfl⟩ := Int.eq_ofNat_of_zero_le (show 0 ≤ d by have := (rightB_d h.1).1; simp only at this; omega)
    obtain ⟨m, rfl⟩ := Int.eq_ofNat_of_zero_le (show 0 ≤ d' by have := (rightB_d h.2).1; simp only at this; omega)
    exact ref_le_yes n m a b c e a' b' c' e' w h.1 h.2
  · exact ref_le_no _ _ _ _ _ _ _ _ _ _ w (by simpa using h)
theorem ref_less_any (d a b c e d' a' b' c' e' : Int) (w : World) :
    Calls Try.prog 151 #[.agg #[.int .i64 d, .int .i64 a, .int .i64 b, .int .i64 c, .int .i64 e], .agg #[.int .i64 d', .int .i64 a', .int .i64 b', .int .i64 c', .int .i64 e']] w
      fun r w' => r = .returned (.bool (lessB ⟨d, a, b, c, e⟩ ⟨d', a', b', c', e'⟩)) ∧ Ext w w' := by
  by_cases h : (rightB ⟨d, a, b, c, e⟩ && rightB ⟨d', a', b', c', e'⟩) = true
  · rw [Bool.and_eq_true] at h
    obtain ⟨n, rfl⟩ := Int.eq_ofNat_of_zero_le (show 0 ≤ d by have := (rightB_d h.1).1; simp only at this; omega)
    obtain ⟨m, rfl⟩ := Int.eq_ofNat_of_zero_le (show 0 ≤ d' by have := (rightB_d h.2).1; simp only at this; omega)
    exact ref_less_yes n m a b c e a' b' c' e' w h.1 h.2
  · exact ref_less_no _ _ _ _ _ _ _ _ _ _ w (by simpa using h)
def joinR (s t : Tm) : Tm × Bool := if bothB s t then (joinT s t, true) else (tz, false)
def meetR (s t : Tm) : Tm × Bool := if bothB s t then (meetT s t, true) else (tz, false)
def bothR (j : Bool) (s t : Tm) : Tm × Bool := if j then joinR s t else meetR s t

/-- n numbers as cells, each by its place. -/
def rowf (n : Nat) (f : Nat → Int) : List Value := (List.range n).map fun j => .int .i64 (f j)
theorem rowf_len (n : Nat) (f : Nat → Int) : (rowf n f).length = n := by simp [rowf]
theorem rowf_get (n : Nat) (f : Nat → Int) (j : Nat) (h : j < n) : (rowf n f)[j]? = some (.int .i64 (f j)) := by simp [rowf, h]
theorem rowf_set (n : Nat) (f g : Nat → Int) (k : Nat) (v : Int) (h : k < n) (hk : g k = v) (ho : ∀ j, j < n → j ≠ k → g j = f j) : (rowf n f).take k ++ [.int .i64 v] ++ (rowf n f).drop (k + [Value.int .i64 v].length) = rowf n g := by
  apply List.ext_getElem?
  intro j
  by_cases hj : j < n
  · rw [rowf_get n g j hj]
    by_cases h1 : j < k
    · rw [List.append_assoc, List.getElem?_append_left (by rw [List.length_take, rowf_len]; omega), List.getElem?_take, if_pos h1, rowf_get n f j hj, ho j hj (by omega)]
    · by_cases h2 : j = k
      · subst h2
        rw [List.append_assoc, List.getElem?_append_right (by rw [List.length_take, rowf_len]; omega), List.length_take, rowf_len, show j - min j n = 0 by omega, hk]
        rfl
      · rw [List.getElem?_append_right (by rw [List.length_append, List.length_take, rowf_len]; simp; omega), List.getElem?_drop, List.length_append, List.length_take, rowf_len]
        rw [show k + [Value.int .i64 v].length + (j - (min k n + [Value.int .i64 v].length)) = j by simp; omega, rowf_get n f j hj, ho j hj h2]
  · rw [List.getElem?_eq_none (by rw [List.length_append, List.length_append, List.length_take, List.length_drop, rowf_len]; simp; omega), List.getElem?_eq_none (by rw [rowf_len]; omega)]
theorem pre_rowf (t : Tm) (n : Nat) (hn : t.d = n) (h4 : n ≤ 4) : ints (pre t 4) = rowf n fun j => t.at j := by
  have hl := pre_len t (by omega) 4
  apply List.ext_getElem?
  intro j
  by_cases hj : j < n
  · rw [rowf_get n _ j hj]
    simp [ints, pre_get t 4 j (by omega) (by omega) (by omega)]
  · rw [List.getElem?_eq_none (by simp [ints, hl]; omega), List.getElem?_eq_none (by rw [rowf_len]; omega)]

/-- What one coordinate becomes. -/
def pickC (j : Bool) (x y : Int) : Int := if j then imax x y else imin x y
theorem pick_t (x y : Int) (h : x < y) : pickC true x y = y := by simp [pickC, imax, h]
theorem pick_t' (x y : Int) (h : y ≤ x) : pickC true x y = x := by simp [pickC, imax, show ¬ x < y by omega]
theorem pick_f (x y : Int) (h : y ≤ x) : pickC false x y = y := by
  simp only [pickC, imin]
  by_cases h' : y < x <;> simp [h'] <;> omega
theorem pick_f' (x y : Int) (h : x < y) : pickC false x y = x := by simp [pickC, imin, show ¬ y < x by omega]
def mixF (j : Bool) (s t : Tm) (k i : Nat) : Int := if i < k then pickC j (s.at i) (t.at i) else s.at i
theorem mix_0 (j : Bool) (s t : Tm) : mixF j s t 0 = fun i : Nat => s.at i := by funext i; simp [mixF]
theorem mix_at (j : Bool) (s t : Tm) (k : Nat) : mixF j s t k k = s.at k := by simp [mixF]
theorem mix_done (j : Bool) (s t : Tm) (k i : Nat) (h : i < k) : mixF j s t k i = pickC j (s.at i) (t.at i) := by simp [mixF, h]
theorem mix_next (j : Bool) (s t : Tm) (k i : Nat) (h : i ≠ k) : mixF j s t (k + 1) i = mixF j s t k i := by
  unfold mixF
  by_cases h1 : i < k
  · rw [if_pos (by omega), if_pos h1]
  · rw [if_neg (by omega), if_neg h1]
theorem mix_stays (j : Bool) (s t : Tm) (n k : Nat) (h : pickC j (s.at k) (t.at k) = s.at k) : rowf n (mixF j s t k) = rowf n (mixF j s t (k + 1)) := by
  unfold rowf
  apply List.map_congr_left
  intro i _
  by_cases hi : i = k
  · subst hi; rw [mix_at, mix_done _ _ _ _ _ (by omega), h]
  · rw [mix_next _ _ _ _ _ hi]

theorem both_alike_1 (a a' : Int) (j : Bool) (h1 : rightB ⟨1, a, 0, 0, 0⟩ = true) (h2 : rightB ⟨1, a', 0, 0, 0⟩ = true) : (ofT [pickC j a a'], ofB [pickC j a a']) = bothR j ⟨1, a, 0, 0, 0⟩ ⟨1, a', 0, 0, 0⟩ := by
  have r1 := (rightB_iff _).1 h1
  have r2 := (rightB_iff _).1 h2
  simp only at r1 r2
  have h3 : rightB (tmOf [pickC j a a']) = true := (rightB_iff _).2 (by
    simp only [tmOf, List.length_cons, List.length_nil]
    simp
    cases j <;> simp only [pickC, imin, imax] <;> simp <;> (repeat' split) <;> omega)
  have e1 : ofT [pickC j a a'] = tmOf [pickC j a a'] := if_pos h3
  have e2 : ofB [pickC j a a'] = true := h3
  rw [e1, e2]
  cases j <;> simp [bothR, joinR, meetR, bothB, h1, h2, tmOf, joinT, meetT, pickC] <;> simp [imax, imin]

theorem both_alike_2 (a b a' b' : Int) (j : Bool) (h1 : rightB ⟨2, a, b, 0, 0⟩ = true) (h2 : rightB ⟨2, a', b', 0, 0⟩ = true) : (ofT [pickC j a a', pickC j b b'], ofB [pickC j a a', pickC j b b']) = bothR j ⟨2, a, b, 0, 0⟩ ⟨2, a', b', 0, 0⟩ := by
  have r1 := (rightB_iff _).1 h1
  have r2 := (rightB_iff _).1 h2
  simp only at r1 r2
  have h3 : rightB (tmOf [pickC j a a', pickC j b b']) = true := (rightB_iff _).2 (by
    simp only [tmOf, List.length_cons, List.length_nil]
    simp
    cases j <;> simp only [pickC, imin, imax] <;> simp <;> (repeat' split) <;> omega)
  have e1 : ofT [pickC j a a', pickC j b b'] = tmOf [pickC j a a', pickC j b b'] := if_pos h3
  have e2 : ofB [pickC j a a', pickC j b b'] = true := h3
  rw [e1, e2]
  cases j <;> simp [bothR, joinR, meetR, bothB, h1, h2, tmOf, joinT, meetT, pickC] <;> simp [imax, imin]

theorem both_alike_3 (a b c a' b' c' : Int) (j : Bool) (h1 : rightB ⟨3, a, b, c, 0⟩ = true) (h2 : rightB ⟨3, a', b', c', 0⟩ = true) : (ofT [pickC j a a', pickC j b b', pickC j c c'], ofB [pickC j a a', pickC j b b', pickC j c c']) = bothR j ⟨3, a, b, c, 0⟩ ⟨3, a', b', c', 0⟩ := by
  have r1 := (rightB_iff _).1 h1
  have r2 := (rightB_iff _).1 h2
  simp only at r1 r2
  have h3 : rightB (tmOf [pickC j a a', pickC j b b', pickC j c c']) = true := (rightB_iff _).2 (by
    simp only [tmOf, List.length_cons, List.length_nil]
    simp
    cases j <;> simp only [pickC, imin, imax] <;> simp <;> (repeat' split) <;> omega)
  have e1 : ofT [pickC j a a', pickC j b b', pickC j c c'] = tmOf [pickC j a a', pickC j b b', pickC j c c'] := if_pos h3
  have e2 : ofB [pickC j a a', pickC j b b', pickC j c c'] = true := h3
  rw [e1, e2]
  cases j <;> simp [bothR, joinR, meetR, bothB, h1, h2, tmOf, joinT, meetT, pickC] <;> simp [imax, imin]

theorem both_alike_4 (a b c e a' b' c' e' : Int) (j : Bool) (h1 : rightB ⟨4, a, b, c, e⟩ = true) (h2 : rightB ⟨4, a', b', c', e'⟩ = true) : (ofT [pickC j a a', pickC j b b', pickC j c c', pickC j e e'], ofB [pickC j a a', pickC j b b', pickC j c c', pickC j e e']) = bothR j ⟨4, a, b, c, e⟩ ⟨4, a', b', c', e'⟩ := by
  have r1 := (rightB_iff _).1 h1
  have r2 := (rightB_iff _).1 h2
  simp only at r1 r2
  have h3 : rightB (tmOf [pickC j a a', pickC j b b', pickC j c c', pickC j e e']) = true := (rightB_iff _).2 (by
    simp only [tmOf, List.length_cons, List.length_nil]
    simp
    cases j <;> simp only [pickC, imin, imax] <;> simp <;> (repeat' split) <;> omega)
  have e1 : ofT [pickC j a a', pickC j b b', pickC j c c', pickC j e e'] = tmOf [pickC j a a', pickC j b b', pickC j c c', pickC j e e'] := if_pos h3
  have e2 : ofB [pickC j a a', pickC j b b', pickC j c c', pickC j e e'] = true := h3
  rw [e1, e2]
  cases j <;> simp [bothR, joinR, meetR, bothB, h1, h2, tmOf, joinT, meetT, pickC]

end Go.Proofs.Ytkmgdejpdhlleaa

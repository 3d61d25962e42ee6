/- Contract of backwashref01.Both: the join, and the meet. -/
import Derived.Test.YtfdgeomomafnbaaRef1e
import Derived.Test.YtfdgeomomafnbaaOwnF
namespace Go.Proofs.Ytfdgeomomafnbaa
set_option linter.unusedSimpArgs false
set_option linter.unusedVariables false
open Go.RowKit

def joinR (s t : Tm) : Tm × Bool := if bothB s t then (joinT s t, true) else (tz, false)
def meetR (s t : Tm) : Tm × Bool := if bothB s t then (meetT s t, true) else (tz, false)
def bothR (j : Bool) (s t : Tm) : Tm × Bool := if j then joinR s t else meetR s t

theorem join_any (d a b c e d' a' b' c' e' : Int) (w : World) :
    Calls Try.prog 23 #[.agg #[.int .i64 d, .int .i64 a, .int .i64 b, .int .i64 c, .int .i64 e], .agg #[.int .i64 d', .int .i64 a', .int .i64 b', .int .i64 c', .int .i64 e']] w
      fun r w' => r = .returned (.tuple #[tv (joinR ⟨d, a, b, c, e⟩ ⟨d', a', b', c', e'⟩).1, .bool (joinR ⟨d, a, b, c, e⟩ ⟨d', a', b', c', e'⟩).2]) ∧ Ext w w' := by
  cases h : bothB ⟨d, a, b, c, e⟩ ⟨d', a', b', c', e'⟩
  · have := join_no d a b c e d' a' b' c' e' w h
    simpa [joinR, h] using this
  · have := join_yes d a b c e d' a' b' c' e' w h
    simpa [joinR, h] using this
theorem meet_any (d a b c e d' a' b' c' e' : Int) (w : World) :
    Calls Try.prog 26 #[.agg #[.int .i64 d, .int .i64 a, .int .i64 b, .int .i64 c, .int .i64 e], .agg #[.int .i64 d', .int .i64 a', .int .i64 b', .int .i64 c', .int .i64 e']] w
      fun r w' => r = .returned (.tuple #[tv (meetR ⟨d, a, b, c, e⟩ ⟨d', a', b', c', e'⟩).1, .bool (meetR ⟨d, a, b, c, e⟩ ⟨d', a', b', c', e'⟩).2]) ∧ Ext w w' := by
  cases h : bothB ⟨d, a, b, c, e⟩ ⟨d', a', b', c', e'⟩
  · have := meet_no d a b c e d' a' b' c' e' w h
    simpa [meetR, h] using this
  · have := meet_yes d a b c e d' a' b' c' e' w h
    simpa [meetR, h] using this

theorem ref_both_no (d a b c e d' a' b' c' e' : Int) (j : Bool) (w : World) (h : (rightB ⟨d, a, b, c, e⟩ && rightB ⟨d', a', b', c', e'⟩) = false) :
    Calls Try.prog 24 #[.agg #[.int .i64 d, .int .i64 a, .int .i64 b, .int .i64 c, .int .i64 e], .agg #[.int .i64 d', .int .i64 a', .int .i64 b', .int .i64 c', .int .i64 e'], .bool j] w
      fun r w' => r = .returned (.tuple #[tv tz, .bool false]) ∧ Ext w w' := by
  cases h1 : rightB ⟨d, a, b, c, e⟩ <;> cases h2 : rightB ⟨d', a', b', c', e'⟩
  case true.true => simp [h1, h2] at h
  all_goals
    clear h
    have H1 := Lib.hid h1
    have H2 := Lib.hid h2
    clear h1 h2
    go_enter Try.func24, Try.ntmps24
    go_wp2_with fail
    first | refine (list_no _ _ _ _ _ _ H1.out).mono ?_ | refine (list_yes _ _ _ _ _ _ H1.out).mono ?_
    first | (rintro r w' ⟨rfl, x, rfl⟩) | (rintro r w' ⟨g, cap, rfl, ⟨x, rfl⟩, ho⟩; clear ho)
    go_wp2_with fail
    first | refine (list_no _ _ _ _ _ _ H2.out).mono ?_ | refine (list_yes _ _ _ _ _ _ H2.out).mono ?_
    first | (rintro r w' ⟨rfl, y, rfl⟩) | (rintro r w' ⟨g', cap', rfl, ⟨y, rfl⟩, ho⟩; clear ho)
    go_wp2_with fail
    go_returns
    exact ⟨rett rfl rfl, by (repeat' (first | with_reducible exact Ext.refl _ | with_reducible refine Ext.ext ?_ _ | with_reducible refine Ext.alloc ?_ _ | with_reducible refine Ext.drew ?_ | with_reducible refine Ext.drewN ?_ _ | with_reducible assumption))⟩

theorem ref_both_len (n m : Nat) (a b c e a' b' c' e' : Int) (j : Bool) (w : World) (h1 : rightB ⟨n, a, b, c, e⟩ = true) (h2 : rightB ⟨m, a', b', c', e'⟩ = true) (hnm : n ≠ m) :
    Calls Try.prog 24 #[.agg #[.int .i64 n, .int .i64 a, .int .i64 b, .int .i64 c, .int .i64 e], .agg #[.int .i64 m, .int .i64 a', .int .i64 b', .int .i64 c', .int .i64 e'], .bool j] w
      fun r w' => r = .returned (.tuple #[tv tz, .bool false]) ∧ Ext w w' := by
  have hne : ((n : Int) != (m : Int)) = true := by simp; omega
  have H1 := Lib.hid h1
  have H2 := Lib.hid h2
  clear h1 h2 hnm
  go_enter Try.func24, Try.ntmps24
  go_wp2_with fail
  refine (list_n _ _ _ _ _ _ H1.out).mono ?_
  rintro r w' ⟨g, cap, x, rfl, rfl, -, -⟩
  go_wp2_with fail
  refine (list_n _ _ _ _ _ _ H2.out).mono ?_
  rintro r w' ⟨g', cap', y, rfl, rfl, -, -⟩
  go_wp2_with fail
  go_returns
  exact ⟨rett rfl rfl, by (repeat' (first | with_reducible exact Ext.refl _ | with_reducible refine Ext.ext ?_ _ | with_reducible refine Ext.alloc ?_ _ | with_reducible refine Ext.drew ?_ | with_reducible refine Ext.drewN ?_ _ | with_reducible assumption))⟩

/-- n numbers as cells, each by its place. -/
def rowf (n : Nat) (f : Nat → Int) : List Value := (List.range n).map fun j => .int .i64 (f j)
theorem rowf_len (n : Nat) (f : Nat → Int) : (rowf n f).length = n := by simp [rowf]
theorem rowf_get (n : Nat) (f : Nat → Int) (j : Nat) (h : j < n) : (rowf n f)[j]? = some (.int .i64 (f j)) := by simp [rowf, h]
theorem rowf_set (n : Nat) (f g : Nat → Int) (k : Nat) (v : Int) (h : k < n) (hk : g k = v) (ho : ∀ j, j < n → j ≠ k → g j = f j) : (rowf n f).take k ++ [.int .i64 v] ++ (rowf n f).drop (k + [Value.int .i64 v].length) = rowf n g := by
  apply List.ext_getElem?
  intro j
  by_cases hj : j < n
  · rw [rowf_get n g j hj]
    by_cases h1 : j < k
    · rw [List.append_assoc, List.getElem?_append_left (by rw [List.length_take, rowf_len]; omega), List.getElem?_take, if_pos h1, rowf_get n f j hj, ho j hj (by omega)]
    · by_cases h2 : j = k
      · subst h2
        rw [List.append_assoc, List.getElem?_append_right (by rw [List.length_take, rowf_len]; omega), List.length_take, rowf_len, show j - min j n = 0 by omega, hk]
        rfl
      · rw [List.getElem?_append_right (by rw [List.length_append, List.length_take, rowf_len]; simp; omega), List.getElem?_drop, List.length_append, List.length_take, rowf_len]
        rw [show k + [Value.int .i64 v].length + (j - (min k n + [Value.int .i64 v].length)) = j by simp; omega, rowf_get n f j hj, ho j hj h2]
  · rw [List.getElem?_eq_none (by rw [List.length_append, List.length_append, List.length_take, List.length_drop, rowf_len]; simp; omega), List.getElem?_eq_none (by rw [rowf_len]; omega)]
theorem pre_rowf (t : Tm) (n : Nat) (hn : t.d = n) (h4 : n ≤ 4) : ints (pre t 4) = rowf n fun j => t.at j := by
  have hl := pre_len t (by omega) 4
  apply List.ext_getElem?
  intro j
  by_cases hj : j < n
  · rw [rowf_get n _ j hj]
    simp [ints, pre_get t 4 j (by omega) (by omega) (by omega)]
  · rw [List.getElem?_eq_none (by simp [ints, hl]; omega), List.getElem?_eq_none (by rw [rowf_len]; omega)]

/-- What one coordinate becomes. -/
def pickC (j : Bool) (x y : Int) : Int := if j then imax x y else imin x y
theorem pick_t (x y : Int) (h : x < y) : pickC true x y = y := by simp [pickC, imax, h]
theorem pick_t' (x y : Int) (h : y ≤ x) : pickC true x y = x := by simp [pickC, imax, show ¬ x < y by omega]
theorem pick_f (x y : Int) (h : y ≤ x) : pickC false x y = y := by
  simp only [pickC, imin]
  by_cases h' : y < x <;> simp [h'] <;> omega
theorem pick_f' (x y : Int) (h : x < y) : pickC false x y = x := by simp [pickC, imin, show ¬ y < x by omega]
def mixF (j : Bool) (s t : Tm) (k i : Nat) : Int := if i < k then pickC j (s.at i) (t.at i) else s.at i
theorem mix_0 (j : Bool) (s t : Tm) : mixF j s t 0 = fun i : Nat => s.at i := by funext i; simp [mixF]
theorem mix_at (j : Bool) (s t : Tm) (k : Nat) : mixF j s t k k = s.at k := by simp [mixF]
theorem mix_done (j : Bool) (s t : Tm) (k i : Nat) (h : i < k) : mixF j s t k i = pickC j (s.at i) (t.at i) := by simp [mixF, h]
theorem mix_next (j : Bool) (s t : Tm) (k i : Nat) (h : i ≠ k) : mixF j s t (k + 1) i = mixF j s t k i := by
  unfold mixF
  by_cases h1 : i < k
  · rw [if_pos (by omega), if_pos h1]
  · rw [if_neg (by omega), if_neg h1]
theorem mix_stays (j : Bool) (s t : Tm) (n k : Nat) (h : pickC j (s.at k) (t.at k) = s.at k) : rowf n (mixF j s t k) = rowf n (mixF j s t (k + 1)) := by
  unfold rowf
  apply List.map_congr_left
  intro i _
  by_cases hi : i = k
  · subst hi; rw [mix_at, mix_done _ _ _ _ _ (by omega), h]
  · rw [mix_next _ _ _ _ _ hi]

theorem both_alike_1 (a a' : Int) (j : Bool) (h1 : rightB ⟨1, a, 0, 0, 0⟩ = true) (h2 : rightB ⟨1, a', 0, 0, 0⟩ = true) : (ofT [pickC j a a'], ofB [pickC j a a']) = bothR j ⟨1, a, 0, 0, 0⟩ ⟨1, a', 0, 0, 0⟩ := by
  have r1 := (rightB_iff _).1 h1
  have r2 := (rightB_iff _).1 h2
  simp only at r1 r2
  have h3 : rightB (tmOf [pickC j a a']) = true := (rightB_iff _).2 (by
    simp only [tmOf, List.length_cons, List.length_nil]
    simp
    cases j <;> simp only [pickC, imin, imax] <;> simp <;> (repeat' split) <;> omega)
  have e1 : ofT [pickC j a a'] = tmOf [pickC j a a'] := if_pos h3
  have e2 : ofB [pickC j a a'] = true := h3
  rw [e1, e2]
  cases j <;> simp [bothR, joinR, meetR, bothB, h1, h2, tmOf, joinT, meetT, pickC] <;> simp [imax, imin]

theorem both_alike_2 (a b a' b' : Int) (j : Bool) (h1 : rightB ⟨2, a, b, 0, 0⟩ = true) (h2 : rightB ⟨2, a', b', 0, 0⟩ = true) : (ofT [pickC j a a', pickC j b b'], ofB [pickC j a a', pickC j b b']) = bothR j ⟨2, a, b, 0, 0⟩ ⟨2, a', b', 0, 0⟩ := by
  have r1 := (rightB_iff _).1 h1
  have r2 := (rightB_iff _).1 h2
  simp only at r1 r2
  have h3 : rightB (tmOf [pickC j a a', pickC j b b']) = true := (rightB_iff _).2 (by
    simp only [tmOf, List.length_cons, List.length_nil]
    simp
    cases j <;> simp only [pickC, imin, imax] <;> simp <;> (repeat' split) <;> omega)
  have e1 : ofT [pickC j a a', pickC j b b'] = tmOf [pickC j a a', pickC j b b'] := if_pos h3
  have e2 : ofB [pickC j a a', pickC j b b'] = true := h3
  rw [e1, e2]
  cases j <;> simp [bothR, joinR, meetR, bothB, h1, h2, tmOf, joinT, meetT, pickC] <;> simp [imax, imin]

theorem both_alike_3 (a b c a' b' c' : Int) (j : Bool) (h1 : rightB ⟨3, a, b, c, 0⟩ = true) (h2 : rightB ⟨3, a', b', c', 0⟩ = true) : (ofT [pickC j a a', pickC j b b', pickC j c c'], ofB [pickC j a a', pickC j b b', pickC j c c']) = bothR j ⟨3, a, b, c, 0⟩ ⟨3, a', b', c', 0⟩ := by
  have r1 := (rightB_iff _).1 h1
  have r2 := (rightB_iff _).1 h2
  simp only at r1 r2
  have h3 : rightB (tmOf [pickC j a a', pickC j b b', pickC j c c']) = true := (rightB_iff _).2 (by
    simp only [tmOf, List.length_cons, List.length_nil]
    simp
    cases j <;> simp only [pickC, imin, imax] <;> simp <;> (repeat' split) <;> omega)
  have e1 : ofT [pickC j a a', pickC j b b', pickC j c c'] = tmOf [pickC j a a', pickC j b b', pickC j c c'] := if_pos h3
  have e2 : ofB [pickC j a a', pickC j b b', pickC j c c'] = true := h3
  rw [e1, e2]
  cases j <;> simp [bothR, joinR, meetR, bothB, h1, h2, tmOf, joinT, meetT, pickC] <;> simp [imax, imin]

theorem both_alike_4 (a b c e a' b' c' e' : Int) (j : Bool) (h1 : rightB ⟨4, a, b, c, e⟩ = true) (h2 : rightB ⟨4, a', b', c', e'⟩ = true) : (ofT [pickC j a a', pickC j b b', pickC j c c', pickC j e e'], ofB [pickC j a a', pickC j b b', pickC j c c', pickC j e e']) = bothR j ⟨4, a, b, c, e⟩ ⟨4, a', b', c', e'⟩ := by
  have r1 := (rightB_iff _).1 h1
  have r2 := (rightB_iff _).1 h2
  simp only at r1 r2
  have h3 : rightB (tmOf [pickC j a a', pickC j b b', pickC j c c', pickC j e e']) = true := (rightB_iff _).2 (by
    simp only [tmOf, List.length_cons, List.length_nil]
    simp
    cases j <;> simp only [pickC, imin, imax] <;> simp <;> (repeat' split) <;> omega)
  have e1 : ofT [pickC j a a', pickC j b b', pickC j c c', pickC j e e'] = tmOf [pickC j a a', pickC j b b', pickC j c c', pickC j e e'] := if_pos h3
  have e2 : ofB [pickC j a a', pickC j b b', pickC j c c', pickC j e e'] = true := h3
  rw [e1, e2]
  cases j <;> simp [bothR, joinR, meetR, bothB, h1, h2, tmOf, joinT, meetT, pickC]

set_option maxHeartbeats 1000000 in
theorem ref_both_yes (n : Nat) (a b c e a' b' c' e' : Int) (j : Bool) (w : World) (h1 : rightB ⟨n, a, b, c, e⟩ = true) (h2 : rightB ⟨n, a', b', c', e'⟩ = true) :
    Calls Try.prog 24 #[.agg #[.int .i64 n, .int .i64 a, .int .i64 b, .int .i64 c, .int .i64 e], .agg #[.int .i64 n, .int .i64 a', .int .i64 b', .int .i64 c', .int .i64 e'], .bool j] w
      fun r w' => r = .returned (.tuple #[tv (bothR j ⟨n, a, b, c, e⟩ ⟨n, a', b', c', e'⟩).1, .bool (bothR j ⟨n, a, b, c, e⟩ ⟨n, a', b', c', e'⟩).2]) ∧ Ext w w' := by
  have hd := rightB_d h1
  simp only at hd
  obtain ⟨q1, q2⟩ : 1 ≤ n ∧ n ≤ 4 := by omega
  have H1 := Lib.hid h1
  have H2 := Lib.hid h2
  clear h1 h2 hd
  go_enter Try.func24, Try.ntmps24
  go_wp2_with fail
  refine (list_n _ _ _ _ _ _ H1.out).mono ?_
  rintro r w' ⟨g, cap, x, rfl, rfl, ho, -⟩
  rw [pre_rowf _ n rfl q2] at ho
  have HO := Lib.hid ho
  clear ho
  go_wp2_with fail
  refine (list_n _ _ _ _ _ _ H2.out).mono ?_
  rintro r w' ⟨g', cap', y, rfl, rfl, ho', hc2⟩
  have HC2 := Lib.hid hc2
  have HG := Lib.hid (own_lt ho').1
  have HGG := Lib.hid (own_lt HO.out).2
  have HNE := Lib.hid (Nat.ne_of_gt (Nat.lt_of_lt_of_le HGG.out HG.out))
  clear hc2 ho'
  have ho1 := own_add HO.out y
  have HO1 := Lib.hid ho1
  clear ho1
  go_wp2_with fail
  go_loopw [12] (fun i wr => ∃ k : Nat, k ≤ n ∧ i = .int .i64 k ∧ ∃ z, wr = ext (((w.alloc (.cells #[.int .i64 n, .int .i64 a, .int .i64 b, .int .i64 c, .int .i64 e] 29)).alloc (.cells #[.int .i64 n, .int .i64 a', .int .i64 b', .int .i64 c', .int .i64 e'] 29)).alloc (.cells #[.int .i64 0, .int .i64 0, .int .i64 0, .int .i64 0, .int .i64 0] 29)) z ∧
      wr.ownsRow (w.heap.size + 1 + 1 + 1) 3 1 (.slice (some ⟨g, 0, none⟩) n cap) n (rowf n (mixF j ⟨n, a, b, c, e⟩ ⟨n, a', b', c', e'⟩ k)) ∧ (∀ i : Nat, i < n → wr.cell? ⟨g', i, none⟩ = some (.int .i64 (Tm.at ⟨n, a', b', c', e'⟩ i))))
    (fun i _ => n - (intOf i).toNat)
  case atStart => exact ⟨0, Nat.zero_le _, rfl, _, rfl, by rw [mix_0]; exact own_base HO1.out (by simp), fun i hi => by rw [← ext_ext]; exact HC2.out i hi⟩
  case round =>
    obtain ⟨k, hk, rfl, z, rfl, hown, hcel⟩ := hrel
    have HOWN := Lib.hid hown
    have HCEL := Lib.hid hcel
    clear hown hcel
    by_cases hlt : k < n
    · have c1 := HOWN.out.cellAt k (by omega)
      rw [rowf_get _ _ _ hlt, mix_at] at c1
      have c2 := HCEL.out k hlt
      have f1 := fun u => cell_add c1 u
      have f2 := fun u => cell_add c2 u
      have hgg := (own_lt HOWN.out).2
      have HGS := Lib.hid hgg
      clear c1 c2 hgg
      have hstay : ∀ u, (ext (((w.alloc (.cells #[.int .i64 n, .int .i64 a, .int .i64 b, .int .i64 c, .int .i64 e] 29)).alloc (.cells #[.int .i64 n, .int .i64 a', .int .i64 b', .int .i64 c', .int .i64 e'] 29)).alloc (.cells #[.int .i64 0, .int .i64 0, .int .i64 0, .int .i64 0, .int .i64 0] 29)) (z.add u)).ownsRow (w.heap.size + 1 + 1 + 1) 3 1 (.slice (some ⟨g, 0, none⟩) n cap) n (rowf n (mixF j ⟨n, a, b, c, e⟩ ⟨n, a', b', c', e'⟩ k)) := fun u => own_add HOWN.out u
      have HSTAY := Lib.hid hstay
      clear hstay
      cases j
      all_goals
        go_wp2_with fail
        refine wp_region_ext (by kernel_rfl) (by kernel_rfl) ?_
        repeat (go_big_quiet_step (fail))
        refine wpQuiet_nil ?_
        intro xK
        go_wp2_with (refine wpList_store_rowF rfl _ _ 3 rfl _ (z.add xK) _ 3 1 n cap g _ (HSTAY.out xK) k _ rfl rfl [.int .i64 (Tm.at ⟨n, a', b', c', e'⟩ k)] rfl (by simp [Value.oneCell']) (by kernel_rfl) (by (first | (simp; done) | (simp; omega) | omega)) (by (first | (simp; done) | (simp; omega) | omega)) ?_; intro y1 ho1 hgr)
        all_goals
          first
            | (refine ⟨⟨k + 1, by omega, by go_num, y1, rfl, ?_, fun i hi => hgr.cell (cell_add (HCEL.out i hi) xK) (by have := HNE.out; simp; omega)⟩, by simp [intOf]; omega⟩
               rw [rowf_set n _ (mixF _ ⟨n, a, b, c, e⟩ ⟨n, a', b', c', e'⟩ (k + 1)) k _ hlt (by rw [mix_done _ _ _ _ _ (by omega)]; first | exact pick_t _ _ (by first | assumption | (simp_all; done)) | exact pick_f _ _ (by first | assumption | (simp_all; done))) (fun i _ hne => mix_next _ _ _ _ _ hne)] at ho1
               exact ho1)
            | (refine ⟨⟨k + 1, by omega, by go_num, _, rfl, ?_, fun i hi => cell_add (HCEL.out i hi) xK⟩, by simp [intOf]; omega⟩
               rw [← mix_stays _ _ _ _ _ (by first | exact pick_t' _ _ (by first | assumption | (simp_all; done)) | exact pick_f' _ _ (by first | assumption | (simp_all; done)))]
               exact HSTAY.out xK)
    · obtain rfl : k = n := by omega
      have HA : ∀ i : Nat, i < k → (ext (((w.alloc (.cells #[.int .i64 k, .int .i64 a, .int .i64 b, .int .i64 c, .int .i64 e] 29)).alloc (.cells #[.int .i64 k, .int .i64 a', .int .i64 b', .int .i64 c', .int .i64 e'] 29)).alloc (.cells #[.int .i64 0, .int .i64 0, .int .i64 0, .int .i64 0, .int .i64 0] 29)) z).cell? ⟨g, i, none⟩ = some (.int .i64 (pickC j (Tm.at ⟨k, a, b, c, e⟩ i) (Tm.at ⟨k, a', b', c', e'⟩ i))) := fun i hi => by
        rw [HOWN.out.cellAt i (by omega), rowf_get _ _ _ hi, mix_done _ _ _ _ _ hi]
      have HB := Lib.hid HA
      clear HA
      have hlg := (own_lt HOWN.out).2
      have HLG := Lib.hid hlg
      clear hlg
      obtain rfl | rfl | rfl | rfl : k = 1 ∨ k = 2 ∨ k = 3 ∨ k = 4 := by omega
      · have r1 := (rightB_iff _).1 H1.out
        have r2 := (rightB_iff _).1 H2.out
        simp only at r1 r2
        obtain rfl : b = 0 := by omega
        obtain rfl : b' = 0 := by omega
        obtain rfl : c = 0 := by omega
        obtain rfl : c' = 0 := by omega
        obtain rfl : e = 0 := by omega
        obtain rfl : e' = 0 := by omega
        clear r1 r2
        go_wp2_with fail
        refine (of_1 (pickC j a a') g 0 cap _ HLG.out (HB.out 0 (by omega))).mono ?_
        rintro r w' ⟨rfl, u, rfl⟩
        go_wp2_with fail
        go_returns
        refine ⟨rett rfl ?_, by (repeat' (first | with_reducible exact Ext.refl _ | with_reducible refine Ext.ext ?_ _ | with_reducible refine Ext.alloc ?_ _ | with_reducible refine Ext.drew ?_ | with_reducible refine Ext.drewN ?_ _ | with_reducible assumption))⟩
        have ha := both_alike_1 a a' j H1.out H2.out
        have g1 := congrArg Prod.fst ha
        have g2 := congrArg Prod.snd ha
        simp only at g1 g2
        rw [g1, g2]
        rfl
      · have r1 := (rightB_iff _).1 H1.out
        have r2 := (rightB_iff _).1 H2.out
        simp only at r1 r2
        obtain rfl : c = 0 := by omega
        obtain rfl : c' = 0 := by omega
        obtain rfl : e = 0 := by omega
        obtain rfl : e' = 0 := by omega
        clear r1 r2
        go_wp2_with fail
        refine (of_2 (pickC j a a') (pickC j b b') g 0 cap _ HLG.out (HB.out 0 (by omega)) (HB.out 1 (by omega))).mono ?_
        rintro r w' ⟨rfl, u, rfl⟩
        go_wp2_with fail
        go_returns
        refine ⟨rett rfl ?_, by (repeat' (first | with_reducible exact Ext.refl _ | with_reducible refine Ext.ext ?_ _ | with_reducible refine Ext.alloc ?_ _ | with_reducible refine Ext.drew ?_ | with_reducible refine Ext.drewN ?_ _ | with_reducible assumption))⟩
        have ha := both_alike_2 a b a' b' j H1.out H2.out
        have g1 := congrArg Prod.fst ha
        have g2 := congrArg Prod.snd ha
        simp only at g1 g2
        rw [g1, g2]
        rfl
      · have r1 := (rightB_iff _).1 H1.out
        have r2 := (rightB_iff _).1 H2.out
        simp only at r1 r2
        obtain rfl : e = 0 := by omega
        obtain rfl : e' = 0 := by omega
        clear r1 r2
        go_wp2_with fail
        refine (of_3 (pickC j a a') (pickC j b b') (pickC j c c') g 0 cap _ HLG.out (HB.out 0 (by omega)) (HB.out 1 (by omega)) (HB.out 2 (by omega))).mono ?_
        rintro r w' ⟨rfl, u, rfl⟩
        go_wp2_with fail
        go_returns
        refine ⟨rett rfl ?_, by (repeat' (first | with_reducible exact Ext.refl _ | with_reducible refine Ext.ext ?_ _ | with_reducible refine Ext.alloc ?_ _ | with_reducible refine Ext.drew ?_ | with_reducible refine Ext.drewN ?_ _ | with_reducible assumption))⟩
        have ha := both_alike_3 a b c a' b' c' j H1.out H2.out
        have g1 := congrArg Prod.fst ha
        have g2 := congrArg Prod.snd ha
        simp only at g1 g2
        rw [g1, g2]
        rfl
      · go_wp2_with fail
        refine (of_4 (pickC j a a') (pickC j b b') (pickC j c c') (pickC j e e') g 0 cap _ HLG.out (HB.out 0 (by omega)) (HB.out 1 (by omega)) (HB.out 2 (by omega)) (HB.out 3 (by omega))).mono ?_
        rintro r w' ⟨rfl, u, rfl⟩
        go_wp2_with fail
        go_returns
        refine ⟨rett rfl ?_, by (repeat' (first | with_reducible exact Ext.refl _ | with_reducible refine Ext.ext ?_ _ | with_reducible refine Ext.alloc ?_ _ | with_reducible refine Ext.drew ?_ | with_reducible refine Ext.drewN ?_ _ | with_reducible assumption))⟩
        have ha := both_alike_4 a b c e a' b' c' e' j H1.out H2.out
        have g1 := congrArg Prod.fst ha
        have g2 := congrArg Prod.snd ha
        simp only at g1 g2
        rw [g1, g2]
        rfl

theorem ref_join_any (d a b c e d' a' b' c' e' : Int) (w : World) :
    Calls Try.prog 24 #[.agg #[.int .i64 d, .int .i64 a, .int .i64 b, .int .i64 c, .int .i64 e], .agg #[.int .i64 d', .int .i64 a', .int .i64 b', .int .i64 c', .int .i64 e'], .bool true] w
      fun r w' => r = .returned (.tuple #[tv (joinR ⟨d, a, b, c, e⟩ ⟨d', a', b', c', e'⟩).1, .bool (joinR ⟨d, a, b, c, e⟩ ⟨d', a', b', c', e'⟩).2]) ∧ Ext w w' := by
  by_cases h : (rightB ⟨d, a, b, c, e⟩ && rightB ⟨d', a', b', c', e'⟩) = true
  · have hh := h
    rw [Bool.and_eq_true] at h
    obtain ⟨n, rfl⟩ := Int.eq_ofNat_of_zero_le (show 0 ≤ d by have := (rightB_d h.1).1; simp only at this; omega)
    obtain ⟨m, rfl⟩ := Int.eq_ofNat_of_zero_le (show 0 ≤ d' by have := (rightB_d h.2).1; simp only at this; omega)
    by_cases hnm : n = m
    · subst hnm
      exact ref_both_yes n a b c e a' b' c' e' true w h.1 h.2
    · have hb : bothB ⟨n, a, b, c, e⟩ ⟨m, a', b', c', e'⟩ = false := by simp [bothB]; omega
      have := ref_both_len n m a b c e a' b' c' e' true w h.1 h.2 hnm
      simpa [joinR, hb] using this
  · have hb : bothB ⟨d, a, b, c, e⟩ ⟨d', a', b', c', e'⟩ = false := by
      simp only [Bool.not_eq_true] at h
      simp only [bothB, ← Bool.and_assoc, h, Bool.false_and]
    have := ref_both_no d a b c e d' a' b' c' e' true w (by simpa using h)
    simpa [joinR, hb] using this

theorem ref_meet_any (d a b c e d' a' b' c' e' : Int) (w : World) :
    Calls Try.prog 24 #[.agg #[.int .i64 d, .int .i64 a, .int .i64 b, .int .i64 c, .int .i64 e], .agg #[.int .i64 d', .int .i64 a', .int .i64 b', .int .i64 c', .int .i64 e'], .bool false] w
      fun r w' => r = .returned (.tuple #[tv (meetR ⟨d, a, b, c, e⟩ ⟨d', a', b', c', e'⟩).1, .bool (meetR ⟨d, a, b, c, e⟩ ⟨d', a', b', c', e'⟩).2]) ∧ Ext w w' := by
  by_cases h : (rightB ⟨d, a, b, c, e⟩ && rightB ⟨d', a', b', c', e'⟩) = true
  · have hh := h
    rw [Bool.and_eq_true] at h
    obtain ⟨n, rfl⟩ := Int.eq_ofNat_of_zero_le (show 0 ≤ d by have := (rightB_d h.1).1; simp only at this; omega)
    obtain ⟨m, rfl⟩ := Int.eq_ofNat_of_zero_le (show 0 ≤ d' by have := (rightB_d h.2).1; simp only at this; omega)
    by_cases hnm : n = m
    · subst hnm
      exact ref_both_yes n a b c e a' b' c' e' false w h.1 h.2
    · have hb : bothB ⟨n, a, b, c, e⟩ ⟨m, a', b', c', e'⟩ = false := by simp [bothB]; omega
      have := ref_both_len n m a b c e a' b' c' e' false w h.1 h.2 hnm
      simpa [meetR, hb] using this
  · have hb : bothB ⟨d, a, b, c, e⟩ ⟨d', a', b', c', e'⟩ = false := by
      simp only [Bool.not_eq_true] at h
      simp only [bothB, ← Bool.and_assoc, h, Bool.false_and]
    have := ref_both_no d a b c e d' a' b' c' e' false w (by simpa using h)
    simpa [meetR, hb] using this
end Go.Proofs.Ytfdgeomomafnbaa

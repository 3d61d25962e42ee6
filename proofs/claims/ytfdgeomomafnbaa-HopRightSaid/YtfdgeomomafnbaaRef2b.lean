/- Contract of backwashref02.Le. -/
import Derived.Test.YtfdgeomomafnbaaRef2a
import Derived.Test.YtfdgeomomafnbaaSl
import Derived.Test.YtfdgeomomafnbaaHopLaw
import Derived.Test.YtfdgeomomafnbaaRef1e
namespace Go.Proofs.Ytfdgeomomafnbaa
set_option linter.unusedSimpArgs false
set_option linter.unusedVariables false
open Go.RowKit

theorem pt_sign (x : Hp) (j : Nat) : (0 ≤ ptO x j ↔ (j : Int) < x.k) ∧ (ptO x j < 0 ↔ ¬ (j : Int) < x.k) := by
  unfold ptO
  split <;> omega
/-- The cells of a row of pairs, in any later world. -/
theorem prs_cells {w : World} {b g n cap : Nat} {e : TypeId} {o v : Nat → Int} (h : w.ownsRow b e 2 (.slice (some ⟨g, 0, none⟩) n cap) n (prs o v n)) {j : Nat} (hj : j < n) : w.cell? ⟨g, j * 2, none⟩ = some (.int .i64 (o j)) ∧ w.cell? ⟨g, j * 2 + 1, none⟩ = some (.int .i64 (v j)) := by
  obtain ⟨b', off, hb, hc⟩ := (own_rd h).cells (by omega)
  obtain ⟨rfl, rfl⟩ : g = b' ∧ 0 = off := by simpa using hb
  obtain ⟨h1, h2⟩ := prs_get o v hj
  have c1 := hc _ _ h1
  have c2 := hc _ _ h2
  rw [Nat.zero_add] at c1 c2
  exact ⟨c1, c2⟩

theorem parts_no' {x : Hp} (h : hopB x = false) : Hid (∀ w, Calls Try.prog 33 #[.agg #[.int .i64 x.f, .int .i64 x.k, .int .i64 x.l, .int .i64 x.a, .int .i64 x.b, .int .i64 x.c, .int .i64 x.e, .int .i64 x.p, .int .i64 x.q, .int .i64 x.r, .int .i64 x.s]] w fun r w' => r = .returned (.tuple #[.slice none 0 0, .bool false]) ∧ Ext w w') := Lib.hid (parts_no h)
theorem parts_yes' {x : Hp} {n : Nat} (h : hopB x = true) (hn : x.k + x.l = n) : Hid (∀ w, Calls Try.prog 33 #[.agg #[.int .i64 x.f, .int .i64 x.k, .int .i64 x.l, .int .i64 x.a, .int .i64 x.b, .int .i64 x.c, .int .i64 x.e, .int .i64 x.p, .int .i64 x.q, .int .i64 x.r, .int .i64 x.s]] w fun r w' => ∃ g cap y, r = .returned (.tuple #[.slice (some ⟨g, 0, none⟩) n cap, .bool true]) ∧ w' = ext w y ∧
      (ext w y).ownsRow w.heap.size 69 2 (.slice (some ⟨g, 0, none⟩) n cap) n (prs (ptO x) (ptV x) n)) := Lib.hid (parts_yes h hn)

set_option maxHeartbeats 2000000 in
theorem ref2_le_no (x y : Hp) (w : World) (h : hopB x = false ∨ hopB y = false) : Calls Try.prog 38 #[hv x, hv y] w fun r w' => r = .returned (.bool false) ∧ Ext w w' := by
  rw [hv_eq, hv_eq]
  cases hx : hopB x
  · have P1 := parts_no' hx
    cases hy : hopB y
    · have P2 := parts_no' hy
      clear h hx hy
      go_enter Try.func38, Try.ntmps38
      go_wp2_with (first | (go_at_call 33; (with_reducible refine (P1.out _).mono ?_); rintro r w' ⟨rfl, ⟨z1, rfl⟩⟩) | (go_at_call 33; (with_reducible refine (P2.out _).mono ?_); rintro r w' ⟨rfl, ⟨z2, rfl⟩⟩))
      go_returns
      exact ⟨retb rfl rfl, by (repeat' (first | with_reducible exact Ext.refl _ | with_reducible refine Ext.ext ?_ _ | with_reducible refine Ext.alloc ?_ _ | with_reducible refine Ext.drew ?_ | with_reducible refine Ext.drewN ?_ _ | with_reducible assumption))⟩
    · obtain ⟨n, hn⟩ := Int.eq_ofNat_of_zero_le (show 0 ≤ y.k + y.l by have := hopB_bd hy; omega)
      have P2 := parts_yes' hy hn
      clear h hx hy hn
      go_enter Try.func38, Try.ntmps38
      go_wp2_with (first | (go_at_call 33; (with_reducible refine (P1.out _).mono ?_); rintro r w' ⟨rfl, ⟨z1, rfl⟩⟩) | (go_at_call 33; (with_reducible refine (P2.out _).mono ?_); rintro r w' ⟨g2, c2, z2, rfl, rfl, ho2⟩; have HO2 := Lib.hid ho2; clear ho2))
      go_returns
      exact ⟨retb rfl rfl, by (repeat' (first | with_reducible exact Ext.refl _ | with_reducible refine Ext.ext ?_ _ | with_reducible refine Ext.alloc ?_ _ | with_reducible refine Ext.drew ?_ | with_reducible refine Ext.drewN ?_ _ | with_reducible assumption))⟩
  · have hy : hopB y = false := by simpa [hx] using h
    obtain ⟨n, hn⟩ := Int.eq_ofNat_of_zero_le (show 0 ≤ x.k + x.l by have := hopB_bd hx; omega)
    have P1 := parts_yes' hx hn
    have P2 := parts_no' hy
    clear h hx hy hn
    go_enter Try.func38, Try.ntmps38
    go_wp2_with (first | (go_at_call 33; (with_reducible refine (P1.out _).mono ?_); rintro r w' ⟨g1, c1, z1, rfl, rfl, ho1⟩; have HO1 := Lib.hid ho1; clear ho1) | (go_at_call 33; (with_reducible refine (P2.out _).mono ?_); rintro r w' ⟨rfl, ⟨z2, rfl⟩⟩))
    go_returns
    exact ⟨retb rfl rfl, by (repeat' (first | with_reducible exact Ext.refl _ | with_reducible refine Ext.ext ?_ _ | with_reducible refine Ext.alloc ?_ _ | with_reducible refine Ext.drew ?_ | with_reducible refine Ext.drewN ?_ _ | with_reducible assumption))⟩
set_option maxHeartbeats 2000000 in
theorem ref2_le_ne (x y : Hp) (w : World) (hx : hopB x = true) (hy : hopB y = true) (n m : Nat) (hn : x.k + x.l = n) (hm : y.k + y.l = m) (h : x.f ≠ y.f ∨ n ≠ m) : Calls Try.prog 38 #[hv x, hv y] w fun r w' => r = .returned (.bool false) ∧ Ext w w' := by
  rw [hv_eq, hv_eq]
  have P1 := parts_yes' hx hn
  have P2 := parts_yes' hy hm
  clear hx hy hn hm
  by_cases hf : x.f = y.f
  · have hfb : (x.f != y.f) = false := by simp [hf]
    have hnb : ((n : Int) != (m : Int)) = true := by simp; omega
    clear h hf
    go_enter Try.func38, Try.ntmps38
    go_wp2_with (first | (go_at_call 33; (with_reducible refine (P1.out _).mono ?_); rintro r w' ⟨g1, c1, z1, rfl, rfl, ho1⟩; have HO1 := Lib.hid ho1; clear ho1) | (go_at_call 33; (with_reducible refine (P2.out _).mono ?_); rintro r w' ⟨g2, c2, z2, rfl, rfl, ho2⟩; have HO2 := Lib.hid ho2; clear ho2))
    go_returns
    exact ⟨retb rfl rfl, by (repeat' (first | with_reducible exact Ext.refl _ | with_reducible refine Ext.ext ?_ _ | with_reducible refine Ext.alloc ?_ _ | with_reducible refine Ext.drew ?_ | with_reducible refine Ext.drewN ?_ _ | with_reducible assumption))⟩
  · have hfb : (x.f != y.f) = true := by simp [hf]
    clear h hf
    go_enter Try.func38, Try.ntmps38
    go_wp2_with (first | (go_at_call 33; (with_reducible refine (P1.out _).mono ?_); rintro r w' ⟨g1, c1, z1, rfl, rfl, ho1⟩; have HO1 := Lib.hid ho1; clear ho1) | (go_at_call 33; (with_reducible refine (P2.out _).mono ?_); rintro r w' ⟨g2, c2, z2, rfl, rfl, ho2⟩; have HO2 := Lib.hid ho2; clear ho2))
    go_returns
    exact ⟨retb rfl rfl, by (repeat' (first | with_reducible exact Ext.refl _ | with_reducible refine Ext.ext ?_ _ | with_reducible refine Ext.alloc ?_ _ | with_reducible refine Ext.drew ?_ | with_reducible refine Ext.drewN ?_ _ | with_reducible assumption))⟩
set_option maxHeartbeats 4000000 in
theorem ref2_le_in (x y : Hp) (w : World) (hx : hopB x = true) (hy : hopB y = true) (n : Nat) (hf : x.f = y.f) (hn : x.k + x.l = n) (hm : y.k + y.l = n) : Calls Try.prog 38 #[hv x, hv y] w fun r w' => r = .returned (.bool (leTo x y n)) ∧ Ext w w' := by
  have hn4 : n ≤ 4 := by have := hopB_bd hx; omega
  rw [hv_eq, hv_eq]
  have P1 := parts_yes' hx hn
  have P2 := parts_yes' hy hm
  have hfb : (x.f != y.f) = false := by simp [hf]
  clear hx hy hn hm hf
  go_enter Try.func38, Try.ntmps38
  go_wp2_with (first | (go_at_call 33; (with_reducible refine (P1.out _).mono ?_); rintro r w' ⟨g1, c1, z1, rfl, rfl, ho1⟩; have HO1 := Lib.hid ho1; clear ho1) | (go_at_call 33; (with_reducible refine (P2.out _).mono ?_); rintro r w' ⟨g2, c2, z2, rfl, rfl, ho2⟩; have HO2 := Lib.hid ho2; clear ho2))
  go_loopw [9] (fun i wr => ∃ j : Nat, j ≤ n ∧ i = .int .i64 j ∧ leTo x y j = true ∧ ∃ z, wr = ext ((w.alloc (.cells #[.int .i64 x.f, .int .i64 x.k, .int .i64 x.l, .int .i64 x.a, .int .i64 x.b, .int .i64 x.c, .int .i64 x.e, .int .i64 x.p, .int .i64 x.q, .int .i64 x.r, .int .i64 x.s] 43)).alloc (.cells #[.int .i64 y.f, .int .i64 y.k, .int .i64 y.l, .int .i64 y.a, .int .i64 y.b, .int .i64 y.c, .int .i64 y.e, .int .i64 y.p, .int .i64 y.q, .int .i64 y.r, .int .i64 y.s] 43)) (z1.add (z2.add z))) (fun i _ => n - (intOf i).toNat)
  case atStart => exact ⟨0, by omega, rfl, rfl, ⟨[], z2.n⟩, by show _ = ext _ (z1.add ⟨z2.hs ++ [], z2.n⟩); rw [List.append_nil]⟩
  case round =>
    obtain ⟨j, hj, rfl, hle, z, rfl⟩ := hrel
    have HLE := Lib.hid hle
    clear hle
    by_cases hlt : j < n
    · have c1 := prs_cells (own_add HO1.out (z2.add z)) hlt
      have c2 := prs_cells (own_add HO2.out z) hlt
      simp only [ext_ext] at c1 c2
      obtain ⟨c1o, c1v⟩ := c1
      obtain ⟨c2o, c2v⟩ := c2
      obtain ⟨p1, p2⟩ := pt_sign x j
      obtain ⟨p3, p4⟩ := pt_sign y j
      have hok : okH x y j = (!(decide (0 ≤ ptO x j) && decide (ptO y j < 0)) && decide (ptV x j ≤ ptV y j)) := by
        simp only [okH, ptV]
        congr 2
        by_cases h1 : (j : Int) < x.k <;> by_cases h2 : (j : Int) < y.k <;> simp [h1, h2, p1, p4]
      generalize ptO x j = o1 at hok c1o
      generalize ptO y j = o2 at hok c2o
      generalize ptV x j = v1 at hok c1v
      generalize ptV y j = v2 at hok c2v
      clear p1 p2 p3 p4
      have i1 : (0 : Int) ≤ j := by omega
      have i2 : (j : Int) < n := by omega
      have f1 := fun u => cell_add c1o u
      have f2 := fun u => cell_add c1v u
      have f3 := fun u => cell_add c2o u
      have f4 := fun u => cell_add c2v u
      simp only [add_assoc] at f1 f2 f3 f4
      cases hv : okH x y j
      · have hno : leTo x y n = false := leTo_false _ _ j hv n hlt
        have HNO := Lib.hid hno
        rw [hv] at hok
        clear hno hv
        by_cases h1 : 0 ≤ o1
        · have g1 : decide (0 ≤ o1) = true := decide_eq_true h1
          by_cases h2 : o2 < 0
          · have g2 : decide (o2 < 0) = true := decide_eq_true h2
            clear hok
            go_wp2
            refine wp_region_ext (by kernel_rfl) (by kernel_rfl) ?_
            repeat (go_big_quiet_step (fail))
            refine wpQuiet_nil ?_
            intro xK
            go_wp2
            go_returns
            exact ⟨retb rfl HNO.out.symm, by (repeat' (first | with_reducible exact Ext.refl _ | with_reducible refine Ext.ext ?_ _ | with_reducible refine Ext.alloc ?_ _ | with_reducible refine Ext.drew ?_ | with_reducible refine Ext.drewN ?_ _ | with_reducible assumption))⟩
          · have g2 : decide (o2 < 0) = false := decide_eq_false h2
            have h3 : v2 < v1 := by simp [h1, h2] at hok; omega
            have g3 : decide (v2 < v1) = true := decide_eq_true h3
            clear hok
            go_wp2
            refine wp_region_ext (by kernel_rfl) (by kernel_rfl) ?_
            repeat (go_big_quiet_step (fail))
            refine wpQuiet_nil ?_
            intro xK
            go_wp2
            go_returns
            exact ⟨retb rfl HNO.out.symm, by (repeat' (first | with_reducible exact Ext.refl _ | with_reducible refine Ext.ext ?_ _ | with_reducible refine Ext.alloc ?_ _ | with_reducible refine Ext.drew ?_ | with_reducible refine Ext.drewN ?_ _ | with_reducible assumption))⟩
        · have g1 : decide (0 ≤ o1) = false := decide_eq_false h1
          have h3 : v2 < v1 := by simp [h1] at hok; omega
          have g3 : decide (v2 < v1) = true := decide_eq_true h3
          clear hok
          go_wp2
          refine wp_region_ext (by kernel_rfl) (by kernel_rfl) ?_
          repeat (go_big_quiet_step (fail))
          refine wpQuiet_nil ?_
          intro xK
          go_wp2
          go_returns
          exact ⟨retb rfl HNO.out.symm, by (repeat' (first | with_reducible exact Ext.refl _ | with_reducible refine Ext.ext ?_ _ | with_reducible refine Ext.alloc ?_ _ | with_reducible refine Ext.drew ?_ | with_reducible refine Ext.drewN ?_ _ | with_reducible assumption))⟩
      · have hstep : leTo x y (j + 1) = true := by simp [leTo, HLE.out, hv]
        have HS := Lib.hid hstep
        rw [hv] at hok
        clear hstep hv
        have h3 : ¬ v2 < v1 := by simp at hok; omega
        have g3 : decide (v2 < v1) = false := decide_eq_false h3
        by_cases h1 : 0 ≤ o1
        · have g1 : decide (0 ≤ o1) = true := decide_eq_true h1
          have h2 : ¬ o2 < 0 := by simp [h1] at hok; omega
          have g2 : decide (o2 < 0) = false := decide_eq_false h2
          clear hok
          go_wp2
          refine wp_region_ext (by kernel_rfl) (by kernel_rfl) ?_
          repeat (go_big_quiet_step (fail))
          refine wpQuiet_nil ?_
          intro xK
          go_wp2
          go_roundw
          case rel => exact ⟨j + 1, by omega, by go_num, HS.out, by (repeat rw [ext_ext]); (repeat rw [add_assoc]); exact ⟨_, rfl⟩⟩
          case measure => simp [intOf]; omega
        · have g1 : decide (0 ≤ o1) = false := decide_eq_false h1
          clear hok
          go_wp2
          refine wp_region_ext (by kernel_rfl) (by kernel_rfl) ?_
          repeat (go_big_quiet_step (fail))
          refine wpQuiet_nil ?_
          intro xK
          go_wp2
          go_roundw
          case rel => exact ⟨j + 1, by omega, by go_num, HS.out, by (repeat rw [ext_ext]); (repeat rw [add_assoc]); exact ⟨_, rfl⟩⟩
          case measure => simp [intOf]; omega
    · obtain rfl : j = n := by omega
      go_wp2
      go_returns
      exact ⟨retb rfl HLE.out.symm, by (repeat' (first | with_reducible exact Ext.refl _ | with_reducible refine Ext.ext ?_ _ | with_reducible refine Ext.alloc ?_ _ | with_reducible refine Ext.drew ?_ | with_reducible refine Ext.drewN ?_ _ | with_reducible assumption))⟩
theorem ref2_le_any (x y : Hp) (w : World) : Calls Try.prog 38 #[hv x, hv y] w fun r w' => r = .returned (.bool (leHB x y)) ∧ Ext w w' := by
  by_cases h : hopB x = true ∧ hopB y = true
  · obtain ⟨hx, hy⟩ := h
    obtain ⟨n, hn⟩ := Int.eq_ofNat_of_zero_le (show 0 ≤ x.k + x.l by have := hopB_bd hx; omega)
    obtain ⟨m, hm⟩ := Int.eq_ofNat_of_zero_le (show 0 ≤ y.k + y.l by have := hopB_bd hy; omega)
    by_cases hf : x.f ≠ y.f ∨ n ≠ m
    · have : leHB x y = false := by
        unfold leHB
        rw [hx, hy]
        by_cases h1 : x.f = y.f
        · have : n ≠ m := by rcases hf with h | h; exact absurd h1 h; exact h
          rw [decide_eq_false (p := x.k + x.l = y.k + y.l) (by omega)]
          simp
        · simp [h1]
      rw [this]
      exact ref2_le_ne x y w hx hy n m hn hm hf
    · obtain ⟨h1, h2⟩ : x.f = y.f ∧ n = m := by omega
      subst h2
      have : leHB x y = leTo x y n := by
        unfold leHB
        rw [hx, hy, hn, hm, h1]
        simp
      rw [this]
      exact ref2_le_in x y w hx hy n h1 hn hm
  · have : leHB x y = false := by
      unfold leHB
      cases hx : hopB x
      · rfl
      · cases hy : hopB y
        · rfl
        · exact absurd ⟨hx, hy⟩ h
    rw [this]
    exact ref2_le_no x y w (by cases hx : hopB x; exact .inl rfl; cases hy : hopB y; exact .inr rfl; exact absurd ⟨hx, hy⟩ h)
end Go.Proofs.Ytfdgeomomafnbaa

/- The reference of layer 5: Same, SameRecs, Less, Right. -/
import Derived.Test.YtbglfaomebokhaaBgL
namespace Go.Proofs.Ytbglfaomebokhaa
set_option linter.unusedSimpArgs false
set_option linter.unusedVariables false
open Go.RowKit

set_option maxHeartbeats 4000000 in
theorem refSame_any (l m : List It) (a a' : Option Addr) (c c' : Nat) (w : World) (h : Rd w 3 l.length (.slice a l.length c) (its l)) (h' : Rd w 3 m.length (.slice a' m.length c') (its m)) (hn : l.length ≤ 1073741823) :
    Calls Try.prog 23 #[.slice a l.length c, .slice a' m.length c'] w fun e w' => e = .returned (.bool (sameB l m)) ∧ Ext w w' := by
  obtain ⟨R, hR⟩ : ∃ R, R = sameB l m := ⟨_, rfl⟩
  rw [← hR]
  have HR := Lib.hid hR
  have H := Lib.hid h
  have H' := Lib.hid h'
  have HN := Lib.hid hn
  by_cases hlen : l.length = m.length
  · rw [← hlen] at H' ⊢
    have HLEN := Lib.hid hlen
    clear h h' hn hR hlen
    go_enter Try.func23, Try.ntmps23
    go_wp2
    go_loopw [5] (fun i wr => ∃ j : Nat, j ≤ l.length ∧ i = .int .i64 j ∧ Ext w wr ∧ ∀ (k : Nat) x y, k < j → l[k]? = some x → m[k]? = some y → x = y) (fun i _ => l.length - (intOf i).toNat)
    case atStart => exact ⟨0, by omega, rfl, by (repeat' (first | with_reducible exact Ext.refl _ | with_reducible refine Ext.ext ?_ _ | with_reducible refine Ext.alloc ?_ _ | with_reducible refine Ext.drew ?_ | with_reducible refine Ext.drewN ?_ _ | with_reducible assumption)), fun k x y hk => absurd hk (Nat.not_lt_zero k)⟩
    case round =>
      obtain ⟨j, hj, rfl, ⟨z, rfl⟩, hok⟩ := hrel
      have HOK := Lib.hid hok
      clear hok
      by_cases hlt : j < l.length
      · obtain ⟨x, hx⟩ : ∃ x, l[j]? = some x := ⟨l[j], List.getElem?_eq_getElem _⟩
        obtain ⟨y, hy⟩ : ∃ y, m[j]? = some y := ⟨m[j]'(by have := HLEN.out; omega), List.getElem?_eq_getElem _⟩
        obtain ⟨b, off, rfl, -⟩ := H.out.cells (by omega)
        obtain ⟨b', off', rfl, -⟩ := H'.out.cells (by omega)
        have q := it_cells H.out j x hx z
        have q0 := q.1
        have q1 := q.2.1
        have q2 := q.2.2
        have q' := it_cells H'.out j y hy z
        have q3 := q'.1
        have q4 := q'.2.1
        have q5 := q'.2.2
        have i1 : (0 : Int) ≤ j := by omega
        have i2 : (j : Int) < l.length := by omega
        have ew : wrap64 ((j : Int) + 1) = ((j + 1 : Nat) : Int) := (IntWalk.wrap64_in _ ⟨by omega, by have := HN.out; omega⟩).trans (by omega)
        have NO := Lib.hid (show x ≠ y → false = R from fun e => by rw [HR.out, sameB_no (fun k => e (by rw [k, hy] at hx; exact (Option.some.inj hx).symm))])
        have ST := Lib.hid (show x = y → ∀ (k : Nat) x y, k < j + 1 → l[k]? = some x → m[k]? = some y → x = y from fun e k u v hk hu hv => by
          rcases Nat.lt_or_ge k j with h | h
          · exact HOK.out k u v h hu hv
          · obtain rfl : k = j := by omega
            rw [hx] at hu
            rw [hy] at hv
            cases hu
            cases hv
            exact e)
        obtain ⟨xk, xv, xn⟩ := x
        obtain ⟨yk, yv, yn⟩ := y
        dsimp only at q0 q1 q2 q3 q4 q5
        clear q q' hx hy
        obtain ⟨b1, f1⟩ : ∃ b, (xk == yk) = b := ⟨_, rfl⟩
        obtain ⟨b2, f2⟩ : ∃ b, (xv == yv) = b := ⟨_, rfl⟩
        obtain ⟨b3, f3⟩ : ∃ b, (xn == yn) = b := ⟨_, rfl⟩
        have EQ : (b1 && b2 && b3) = true → It.mk xk xv xn = ⟨yk, yv, yn⟩ := fun h => by
          simp only [Bool.and_eq_true] at h
          obtain ⟨⟨rfl, rfl⟩, rfl⟩ := h
          rw [eq_of_beq f1, eq_of_beq f2, eq_of_beq f3]
        have NE : (b1 && b2 && b3) = false → It.mk xk xv xn ≠ ⟨yk, yv, yn⟩ := fun h e => by
          cases e
          simp only [beq_self_eq_true] at f1 f2 f3
          subst f1 f2 f3
          cases h
        obtain ⟨b4, f4⟩ : ∃ b, (b1 && b2 && b3) = b := ⟨_, rfl⟩
        rw [f4] at EQ NE
        have f5 : (xk == yk && xv == yv && xn == yn) = b4 := by rw [f1, f2, f3, f4]
        clear f1 f2 f3 f4
        cases b4
        · have HF := Lib.hid (NO.out (NE rfl))
          clear NO ST EQ NE
          go_wp2
          refine wp_region_ext (by kernel_rfl) (by kernel_rfl) ?_
          repeat (go_big_quiet_step (fail))
          refine wpQuiet_nil ?_
          intro xK
          go_wp2
          go_returns
          exact ⟨retb rfl HF.out, by (repeat' (first | with_reducible exact Ext.refl _ | with_reducible refine Ext.ext ?_ _ | with_reducible refine Ext.alloc ?_ _ | with_reducible refine Ext.drew ?_ | with_reducible refine Ext.drewN ?_ _ | with_reducible assumption))⟩
        · have HS := Lib.hid (ST.out (EQ rfl))
          clear NO ST EQ NE
          go_wp2
          refine wp_region_ext (by kernel_rfl) (by kernel_rfl) ?_
          repeat (go_big_quiet_step (fail))
          refine wpQuiet_nil ?_
          intro xK
          go_wp2
          exact ⟨⟨j + 1, by omega, congrArg (Value.int .i64) ew, by (repeat' (first | with_reducible exact Ext.refl _ | with_reducible refine Ext.ext ?_ _ | with_reducible refine Ext.alloc ?_ _ | with_reducible refine Ext.drew ?_ | with_reducible refine Ext.drewN ?_ _ | with_reducible assumption)), HS.out⟩, by rw [ew]; simp only [intOf]; omega⟩
      · obtain rfl : j = l.length := by omega
        have HS := Lib.hid (show true = R by rw [HR.out, sameB_yes (list_same HLEN.out (fun k x y h1 h2 => HOK.out k x y (List.getElem?_eq_some_iff.1 h1).1 h1 h2))])
        go_wp2
        go_returns
        exact ⟨retb rfl HS.out, by (repeat' (first | with_reducible exact Ext.refl _ | with_reducible refine Ext.ext ?_ _ | with_reducible refine Ext.alloc ?_ _ | with_reducible refine Ext.drew ?_ | with_reducible refine Ext.drewN ?_ _ | with_reducible assumption))⟩
  · have HF := Lib.hid (show false = R by rw [hR, sameB_no (fun e => hlen (by rw [e]))])
    have e0 : ((l.length : Int) != m.length) = true := by simp; omega
    clear h h' hn hR hlen
    go_enter Try.func23, Try.ntmps23
    go_wp2
    go_returns
    exact ⟨retb rfl HF.out, by (repeat' (first | with_reducible exact Ext.refl _ | with_reducible refine Ext.ext ?_ _ | with_reducible refine Ext.alloc ?_ _ | with_reducible refine Ext.drew ?_ | with_reducible refine Ext.drewN ?_ _ | with_reducible assumption))⟩
set_option maxHeartbeats 4000000 in
theorem refSameRecs_any (l m : List (Int × Int)) (a a' : Option Addr) (c c' : Nat) (w : World) (h : Rd w 2 l.length (.slice a l.length c) (rcs l)) (h' : Rd w 2 m.length (.slice a' m.length c') (rcs m)) (hn : l.length ≤ 1073741823) :
    Calls Try.prog 28 #[.slice a l.length c, .slice a' m.length c'] w fun e w' => e = .returned (.bool (sameB l m)) ∧ Ext w w' := by
  obtain ⟨R, hR⟩ : ∃ R, R = sameB l m := ⟨_, rfl⟩
  rw [← hR]
  have HR := Lib.hid hR
  have H := Lib.hid h
  have H' := Lib.hid h'
  have HN := Lib.hid hn
  by_cases hlen : l.length = m.length
  · rw [← hlen] at H' ⊢
    have HLEN := Lib.hid hlen
    clear h h' hn hR hlen
    go_enter Try.func28, Try.ntmps28
    go_wp2
    go_loopw [5] (fun i wr => ∃ j : Nat, j ≤ l.length ∧ i = .int .i64 j ∧ Ext w wr ∧ ∀ (k : Nat) x y, k < j → l[k]? = some x → m[k]? = some y → x = y) (fun i _ => l.length - (intOf i).toNat)
    case atStart => exact ⟨0, by omega, rfl, by (repeat' (first | with_reducible exact Ext.refl _ | with_reducible refine Ext.ext ?_ _ | with_reducible refine Ext.alloc ?_ _ | with_reducible refine Ext.drew ?_ | with_reducible refine Ext.drewN ?_ _ | with_reducible assumption)), fun k x y hk => absurd hk (Nat.not_lt_zero k)⟩
    case round =>
      obtain ⟨j, hj, rfl, ⟨z, rfl⟩, hok⟩ := hrel
      have HOK := Lib.hid hok
      clear hok
      by_cases hlt : j < l.length
      · obtain ⟨x, hx⟩ : ∃ x, l[j]? = some x := ⟨l[j], List.getElem?_eq_getElem _⟩
        obtain ⟨y, hy⟩ : ∃ y, m[j]? = some y := ⟨m[j]'(by have := HLEN.out; omega), List.getElem?_eq_getElem _⟩
        obtain ⟨b, off, rfl, -⟩ := H.out.cells (by omega)
        obtain ⟨b', off', rfl, -⟩ := H'.out.cells (by omega)
        have q := rc_cells H.out j x hx z
        have q0 := q.1
        have q1 := q.2
        have q' := rc_cells H'.out j y hy z
        have q3 := q'.1
        have q4 := q'.2
        have i1 : (0 : Int) ≤ j := by omega
        have i2 : (j : Int) < l.length := by omega
        have ew : wrap64 ((j : Int) + 1) = ((j + 1 : Nat) : Int) := (IntWalk.wrap64_in _ ⟨by omega, by have := HN.out; omega⟩).trans (by omega)
        have NO := Lib.hid (show x ≠ y → false = R from fun e => by rw [HR.out, sameB_no (fun k => e (by rw [k, hy] at hx; exact (Option.some.inj hx).symm))])
        have ST := Lib.hid (show x = y → ∀ (k : Nat) x y, k < j + 1 → l[k]? = some x → m[k]? = some y → x = y from fun e k u v hk hu hv => by
          rcases Nat.lt_or_ge k j with h | h
          · exact HOK.out k u v h hu hv
          · obtain rfl : k = j := by omega
            rw [hx] at hu
            rw [hy] at hv
            cases hu
            cases hv
            exact e)
        obtain ⟨xk, xv⟩ := x
        obtain ⟨yk, yv⟩ := y
        dsimp only at q0 q1 q3 q4
        clear q q' hx hy
        obtain ⟨b1, f1⟩ : ∃ b, (xk == yk) = b := ⟨_, rfl⟩
        obtain ⟨b2, f2⟩ : ∃ b, (xv == yv) = b := ⟨_, rfl⟩
        have EQ : (b1 && b2) = true → (xk, xv) = (yk, yv) := fun h => by
          simp only [Bool.and_eq_true] at h
          obtain ⟨rfl, rfl⟩ := h
          rw [eq_of_beq f1, eq_of_beq f2]
        have NE : (b1 && b2) = false → (xk, xv) ≠ (yk, yv) := fun h e => by
          cases e
          simp only [beq_self_eq_true] at f1 f2
          subst f1 f2
          cases h
        obtain ⟨b4, f4⟩ : ∃ b, (b1 && b2) = b := ⟨_, rfl⟩
        rw [f4] at EQ NE
        have f5 : (xk == yk && xv == yv) = b4 := by rw [f1, f2, f4]
        clear f1 f2 f4
        cases b4
        · have HF := Lib.hid (NO.out (NE rfl))
          clear NO ST EQ NE
          go_wp2
          refine wp_region_ext (by kernel_rfl) (by kernel_rfl) ?_
          repeat (go_big_quiet_step (fail))
          refine wpQuiet_nil ?_
          intro xK
          go_wp2
          go_returns
          exact ⟨retb rfl HF.out, by (repeat' (first | with_reducible exact Ext.refl _ | with_reducible refine Ext.ext ?_ _ | with_reducible refine Ext.alloc ?_ _ | with_reducible refine Ext.drew ?_ | with_reducible refine Ext.drewN ?_ _ | with_reducible assumption))⟩
        · have HS := Lib.hid (ST.out (EQ rfl))
          clear NO ST EQ NE
          go_wp2
          refine wp_region_ext (by kernel_rfl) (by kernel_rfl) ?_
          repeat (go_big_quiet_step (fail))
          refine wpQuiet_nil ?_
          intro xK
          go_wp2
          exact ⟨⟨j + 1, by omega, congrArg (Value.int .i64) ew, by (repeat' (first | with_reducible exact Ext.refl _ | with_reducible refine Ext.ext ?_ _ | with_reducible refine Ext.alloc ?_ _ | with_reducible refine Ext.drew ?_ | with_reducible refine Ext.drewN ?_ _ | with_reducible assumption)), HS.out⟩, by rw [ew]; simp only [intOf]; omega⟩
      · obtain rfl : j = l.length := by omega
        have HS := Lib.hid (show true = R by rw [HR.out, sameB_yes (list_same HLEN.out (fun k x y h1 h2 => HOK.out k x y (List.getElem?_eq_some_iff.1 h1).1 h1 h2))])
        go_wp2
        go_returns
        exact ⟨retb rfl HS.out, by (repeat' (first | with_reducible exact Ext.refl _ | with_reducible refine Ext.ext ?_ _ | with_reducible refine Ext.alloc ?_ _ | with_reducible refine Ext.drew ?_ | with_reducible refine Ext.drewN ?_ _ | with_reducible assumption))⟩
  · have HF := Lib.hid (show false = R by rw [hR, sameB_no (fun e => hlen (by rw [e]))])
    have e0 : ((l.length : Int) != m.length) = true := by simp; omega
    clear h h' hn hR hlen
    go_enter Try.func28, Try.ntmps28
    go_wp2
    go_returns
    exact ⟨retb rfl HF.out, by (repeat' (first | with_reducible exact Ext.refl _ | with_reducible refine Ext.ext ?_ _ | with_reducible refine Ext.alloc ?_ _ | with_reducible refine Ext.drew ?_ | with_reducible refine Ext.drewN ?_ _ | with_reducible assumption))⟩
theorem refLess_any (a b : Int × Int) (w : World) : Calls Try.prog 34 #[.agg #[.int .i64 a.1, .int .i64 a.2], .agg #[.int .i64 b.1, .int .i64 b.2]] w fun e w' => e = .returned (.bool (decide (ordR a b < 0))) ∧ Ext w w' := by
  obtain ⟨x, y⟩ := a
  obtain ⟨x', y'⟩ := b
  obtain ⟨b1, f1⟩ : ∃ b, decide (x < x') = b := ⟨_, rfl⟩
  obtain ⟨b2, f2⟩ : ∃ b, (x == x') = b := ⟨_, rfl⟩
  obtain ⟨b3, f3⟩ : ∃ b, decide (y < y') = b := ⟨_, rfl⟩
  have h : decide (ordR (x, y) (x', y') < 0) = (b1 || (b2 && b3)) := by
    subst f1 f2 f3
    rw [Bool.eq_iff_iff]
    simp only [Bool.or_eq_true, Bool.and_eq_true, decide_eq_true_eq, beq_iff_eq, ordR_lt, ltR]
  rw [h]
  dsimp only
  clear h
  cases b1 <;> cases b2 <;> cases b3
  all_goals
    go_enter Try.func34, Try.ntmps34
    go_wp2
    go_returns
    exact ⟨retb rfl rfl, by (repeat' (first | with_reducible exact Ext.refl _ | with_reducible refine Ext.ext ?_ _ | with_reducible refine Ext.alloc ?_ _ | with_reducible refine Ext.drew ?_ | with_reducible refine Ext.drewN ?_ _ | with_reducible assumption))⟩
set_option maxHeartbeats 4000000 in
theorem refRight_any (l : List It) (a : Option Addr) (n c : Nat) (w : World) (h : Rd w 3 n (.slice a n c) (its l)) (hn : l.length = n) (hl : n ≤ 1073741824) :
    Calls Try.prog 35 #[.slice a n c] w fun e w' => e = .returned (.bool (rightB l)) ∧ Ext w w' := by
  have H := Lib.hid h
  have HN := Lib.hid hn
  have HL := Lib.hid hl
  have LS := Lib.hid refLess_any
  obtain ⟨R, hR⟩ : ∃ R, R = rightB l := ⟨_, rfl⟩
  rw [← hR]
  have HR := Lib.hid hR
  clear h hn hl hR
  go_enter Try.func35, Try.ntmps35
  go_wp2
  go_loopw [3] (fun i wr => ∃ j : Nat, j ≤ n ∧ i = .int .i64 j ∧ Ext w wr ∧ ∀ (k : Nat) (x : It), k < j → l[k]? = some x → okN x = true ∧ (∀ i y, k = i + 1 → l[i]? = some y → lessI y x = true)) (fun i _ => n - (intOf i).toNat)
  case atStart => exact ⟨0, by omega, rfl, by (repeat' (first | with_reducible exact Ext.refl _ | with_reducible refine Ext.ext ?_ _ | with_reducible refine Ext.alloc ?_ _ | with_reducible refine Ext.drew ?_ | with_reducible refine Ext.drewN ?_ _ | with_reducible assumption)), fun k x hk => absurd hk (Nat.not_lt_zero k)⟩
  case round =>
    obtain ⟨j, hj, rfl, ⟨z, rfl⟩, hok⟩ := hrel
    have HOK := Lib.hid hok
    clear hok
    by_cases hlt : j < n
    · obtain ⟨x, hx⟩ : ∃ x, l[j]? = some x := ⟨l[j]'(by have := HN.out; omega), List.getElem?_eq_getElem _⟩
      obtain ⟨b, off, rfl, -⟩ := H.out.cells (by omega)
      have q := it_cells H.out j x hx z
      have q0 := q.1
      have q1 := q.2.1
      have q2 := q.2.2
      have i1 : (0 : Int) ≤ j := by omega
      have i2 : (j : Int) < n := by omega
      have ew : wrap64 ((j : Int) + 1) = ((j + 1 : Nat) : Int) := (IntWalk.wrap64_in _ ⟨by omega, by have := HL.out; omega⟩).trans (by omega)
      have HX := Lib.hid hx
      have STEP : okN x = true → (∀ i y, j = i + 1 → l[i]? = some y → lessI y x = true) → ∀ (k : Nat) (x : It), k < j + 1 → l[k]? = some x → okN x = true ∧ (∀ i y, k = i + 1 → l[i]? = some y → lessI y x = true) := fun h1 h2 k x' hk hx' => by
        rcases Nat.lt_or_ge k j with h | h
        · exact HOK.out k x' h hx'
        · obtain rfl : k = j := by omega
          rw [HX.out] at hx'
          cases hx'
          exact ⟨h1, h2⟩
      have ST := Lib.hid STEP
      clear STEP q hx
      obtain ⟨xk, xv, xn⟩ := x
      dsimp only at q0 q1 q2
      obtain ⟨b1, f1⟩ : ∃ b, (xn == 0) = b := ⟨_, rfl⟩
      obtain ⟨b2, f2⟩ : ∃ b, decide (2147483648 < xn) = b := ⟨_, rfl⟩
      obtain ⟨b3, f3⟩ : ∃ b, decide (xn < -2147483648) = b := ⟨_, rfl⟩
      have hk : okN ⟨xk, xv, xn⟩ = (!b1 && (!b2 && !b3)) := by
        subst f1 f2 f3
        show (!(xn == 0) && decide _) = _
        congr 1
        rw [Bool.eq_iff_iff]
        simp only [Bool.and_eq_true, decide_eq_true_eq, Bool.not_eq_true', decide_eq_false_iff_not]
        omega
      have HK := Lib.hid hk
      clear hk
      cases b1
      case true =>
        have RR := Lib.hid (show false = R by rw [HR.out, right_no1 HX.out (by rw [HK.out]; rfl)])
        go_wp2
        refine wp_region_ext (by kernel_rfl) (by kernel_rfl) ?_
        repeat (go_big_quiet_step (fail))
        refine wpQuiet_nil ?_
        intro xK
        go_wp2
        go_returns
        exact ⟨retb rfl RR.out, by (repeat' (first | with_reducible exact Ext.refl _ | with_reducible refine Ext.ext ?_ _ | with_reducible refine Ext.alloc ?_ _ | with_reducible refine Ext.drew ?_ | with_reducible refine Ext.drewN ?_ _ | with_reducible assumption))⟩
      case false =>
      cases b2
      case true =>
        have RR := Lib.hid (show false = R by rw [HR.out, right_no1 HX.out (by rw [HK.out]; rfl)])
        go_wp2
        refine wp_region_ext (by kernel_rfl) (by kernel_rfl) ?_
        repeat (go_big_quiet_step (fail))
        refine wpQuiet_nil ?_
        intro xK
        go_wp2
        go_returns
        exact ⟨retb rfl RR.out, by (repeat' (first | with_reducible exact Ext.refl _ | with_reducible refine Ext.ext ?_ _ | with_reducible refine Ext.alloc ?_ _ | with_reducible refine Ext.drew ?_ | with_reducible refine Ext.drewN ?_ _ | with_reducible assumption))⟩
      case false =>
      cases b3
      case true =>
        have RR := Lib.hid (show false = R by rw [HR.out, right_no1 HX.out (by rw [HK.out]; rfl)])
        go_wp2
        refine wp_region_ext (by kernel_rfl) (by kernel_rfl) ?_
        repeat (go_big_quiet_step (fail))
        refine wpQuiet_nil ?_
        intro xK
        go_wp2
        go_returns
        exact ⟨retb rfl RR.out, by (repeat' (first | with_reducible exact Ext.refl _ | with_reducible refine Ext.ext ?_ _ | with_reducible refine Ext.alloc ?_ _ | with_reducible refine Ext.drew ?_ | with_reducible refine Ext.drewN ?_ _ | with_reducible assumption))⟩
      case false =>
        by_cases h0 : j = 0
        · have j0 : decide (0 < (j : Int)) = false := decide_eq_false (by omega)
          have j0' : decide (0 < j) = false := decide_eq_false (by omega)
          have H0 := Lib.hid h0
          clear h0
          go_wp2
          refine wp_region_ext (by kernel_rfl) (by kernel_rfl) ?_
          repeat (go_big_quiet_step (fail))
          refine wpQuiet_nil ?_
          intro xK
          go_wp2
          exact ⟨⟨j + 1, by omega, congrArg (Value.int .i64) ew, by (repeat' (first | with_reducible exact Ext.refl _ | with_reducible refine Ext.ext ?_ _ | with_reducible refine Ext.alloc ?_ _ | with_reducible refine Ext.drew ?_ | with_reducible refine Ext.drewN ?_ _ | with_reducible assumption)), ST.out (by rw [HK.out]; rfl) (fun i y hi => by have := H0.out; omega)⟩, by rw [ew]; simp only [intOf]; omega⟩
        · have j0 : decide (0 < (j : Int)) = true := decide_eq_true (by omega)
          have j0' : decide (0 < j) = true := decide_eq_true (by omega)
          obtain ⟨i, hi⟩ : ∃ i, j = i + 1 := ⟨j - 1, by omega⟩
          have HI := Lib.hid hi
          have ei : wrap64 ((j : Int) - 1) = (i : Int) := (IntWalk.wrap64_in _ ⟨by omega, by have := HL.out; omega⟩).trans (by omega)
          have i3 : (0 : Int) ≤ i := by omega
          have i4 : (i : Int) < n := by omega
          obtain ⟨y, hy⟩ : ∃ y, l[i]? = some y := ⟨l[i]'(by have := HN.out; omega), List.getElem?_eq_getElem _⟩
          have HY := Lib.hid hy
          have p := it_cells H.out i y hy z
          have p0 := p.1
          have p1 := p.2.1
          obtain ⟨yk, yv, yn⟩ := y
          dsimp only at p0 p1
          have LN := Lib.hid (fun w => LS.out (yk, yv) (xk, xv) w)
          obtain ⟨b4, f4⟩ : ∃ b, decide (ordR (yk, yv) (xk, xv) < 0) = b := ⟨_, rfl⟩
          have HL4 := Lib.hid (show lessI ⟨yk, yv, yn⟩ ⟨xk, xv, xn⟩ = b4 from f4)
          rw [f4] at LN
          dsimp only at LN
          clear h0 hi p hy f4
          cases b4
          · have RR := Lib.hid (show false = R by rw [HR.out, right_no2 HY.out (by rw [← HI.out]; exact HX.out) HL4.out])
            go_wp2
            refine wp_region_ext (by kernel_rfl) (by kernel_rfl) ?_
            repeat (go_big_quiet_step (first | (go_at_call 34; (apply quiet_of; (with_reducible exact LN.out _); (intro w' hx; obtain ⟨z, rfl⟩ := hx; (try simp only [ext_ext, add_assoc]); exact ⟨_, rfl⟩)))))
            refine wpQuiet_nil ?_
            intro xK
            go_wp2
            go_returns
            exact ⟨retb rfl RR.out, by (repeat' (first | with_reducible exact Ext.refl _ | with_reducible refine Ext.ext ?_ _ | with_reducible refine Ext.alloc ?_ _ | with_reducible refine Ext.drew ?_ | with_reducible refine Ext.drewN ?_ _ | with_reducible assumption))⟩
          · go_wp2
            refine wp_region_ext (by kernel_rfl) (by kernel_rfl) ?_
            repeat (go_big_quiet_step (first | (go_at_call 34; (apply quiet_of; (with_reducible exact LN.out _); (intro w' hx; obtain ⟨z, rfl⟩ := hx; (try simp only [ext_ext, add_assoc]); exact ⟨_, rfl⟩)))))
            refine wpQuiet_nil ?_
            intro xK
            go_wp2
            exact ⟨⟨j + 1, by omega, congrArg (Value.int .i64) ew, by (repeat' (first | with_reducible exact Ext.refl _ | with_reducible refine Ext.ext ?_ _ | with_reducible refine Ext.alloc ?_ _ | with_reducible refine Ext.drew ?_ | with_reducible refine Ext.drewN ?_ _ | with_reducible assumption)), ST.out (by rw [HK.out]; rfl) (fun i' y hi' hy' => by
              have := HI.out
              obtain rfl : i' = i := by omega
              rw [HY.out] at hy'
              cases hy'
              exact HL4.out)⟩, by rw [ew]; simp only [intOf]; omega⟩
    · obtain rfl : j = n := by omega
      have RR := Lib.hid (show true = R by rw [HR.out, right_yes (fun k x hx => HOK.out k x (by have := (List.getElem?_eq_some_iff.1 hx).1; have := HN.out; omega) hx)])
      go_wp2
      go_returns
      exact ⟨retb rfl RR.out, by (repeat' (first | with_reducible exact Ext.refl _ | with_reducible refine Ext.ext ?_ _ | with_reducible refine Ext.alloc ?_ _ | with_reducible refine Ext.drew ?_ | with_reducible refine Ext.drewN ?_ _ | with_reducible assumption))⟩
end Go.Proofs.Ytbglfaomebokhaa

/- Front: equality of counts; the reference's Same and Right. -/
import Derived.Test.YtfpmejbgmgdedaaFr5
import Derived.Test.YtfpmejbgmgdedaaChL
namespace Go.Proofs.Ytfpmejbgmgdedaa.Fr
set_option linter.unusedSimpArgs false
set_option linter.unusedVariables false
open Go.RowKit

theorem eq_count (d : Nat) (w : World) (x a b c e n x' a' b' c' e' n' : Int) : (Op.equalIn (d + 4) 48 (.agg #[.int .i64 x, .int .i64 a, .int .i64 b, .int .i64 c, .int .i64 e, .int .i64 n]) (.agg #[.int .i64 x', .int .i64 a', .int .i64 b', .int .i64 c', .int .i64 e', .int .i64 n'])).run Try.prog w = .ok ((x == x' && (a == a' && (b == b' && (c == c' && e == e')))) && n == n') w := by
  rw [run_equalIn_struct (ht := by kernel_rfl) (hp := by kernel_rfl)]
  have q1 : ∀ w, (isAgg 25).run Try.prog w = .ok true w := fun w => by rfl
  have q2 : ∀ w, (isAgg 3).run Try.prog w = .ok false w := fun w => by rfl
  have q3 : ∀ w, (sizeOf 25).run Try.prog w = .ok 5 w := fun w => by rfl
  have q4 : ∀ w, (sizeOf 3).run Try.prog w = .ok 1 w := fun w => by rfl
  have e1 := eq_time d w x a b c e x' a' b' c' e'
  have e2 : (Op.equalIn (d + 3) 3 (.int .i64 n) (.int .i64 n')).run Try.prog w = .ok (n == n') w := run_equalIn_int w (d + 2) 3 .i64 .i64 n n' Try.underlying3
  cases h1 : (x == x' && (a == a' && (b == b' && (c == c' && e == e')))) <;> cases h2 : n == n' <;> rw [h1] at e1 <;> rw [h2] at e2 <;> simp [Program.fieldsOf, Try.underlying48, Op.eqFields, part, q1, q2, q3, q4, e1, e2]
theorem guard_count : Try.prog.eqGuardType Try.prog.depth 48 = false := by kernel_rfl
@[go_sem high] theorem same_count (w : World) (x a b c e n x' a' b' c' e' n' : Int) : (Op.equalIn 10000 48 (.agg #[.int .i64 x, .int .i64 a, .int .i64 b, .int .i64 c, .int .i64 e, .int .i64 n]) (.agg #[.int .i64 x', .int .i64 a', .int .i64 b', .int .i64 c', .int .i64 e', .int .i64 n'])).run Try.prog w = .ok ((x == x' && (a == a' && (b == b' && (c == c' && e == e')))) && n == n') w := eq_count 9996 w x a b c e n x' a' b' c' e' n'
@[go_sem high] theorem gd_count (op : BinOp) (x y : Operand) (xs ys : Array Value) (w : World) : (eqGuard op 48 x y (.agg xs) (.agg ys)).run Try.prog w = .ok () w := run_eqGuard_agg w op _ x y xs ys guard_count
@[go_sem high] theorem neq_count (w : World) (x a b c e n x' a' b' c' e' n' : Int) : (binOp .neq 48 (.agg #[.int .i64 x, .int .i64 a, .int .i64 b, .int .i64 c, .int .i64 e, .int .i64 n]) (.agg #[.int .i64 x', .int .i64 a', .int .i64 b', .int .i64 c', .int .i64 e', .int .i64 n'])).run Try.prog w = .ok (.bool (!((x == x' && (a == a' && (b == b' && (c == c' && e == e')))) && n == n'))) w := by
  rw [run_neq_struct, same_count]; rfl
def eqC (x y : Ct) : Bool := (x.d == y.d && (x.a == y.a && (x.b == y.b && (x.c == y.c && x.e == y.e)))) && x.n == y.n
theorem eqC_iff (x y : Ct) : eqC x y = true ↔ x = y := by
  obtain ⟨xd, xa, xb, xc, xe, xn⟩ := x
  obtain ⟨yd, ya, yb, yc, ye, yn⟩ := y
  unfold eqC
  simp only [Bool.and_eq_true, beq_iff_eq, Ct.mk.injEq]
  constructor
  · rintro ⟨⟨h1, h2, h3, h4, h5⟩, h6⟩; exact ⟨h1, h2, h3, h4, h5, h6⟩
  · rintro ⟨h1, h2, h3, h4, h5, h6⟩; exact ⟨⟨h1, h2, h3, h4, h5⟩, h6⟩
set_option maxHeartbeats 4000000 in
theorem refSame_any (l m : List Ct) (a a' : Option Addr) (c c' : Nat) (w : World) (h : Rd w 6 l.length (.slice a l.length c) (cts l)) (h' : Rd w 6 m.length (.slice a' m.length c') (cts m)) (hn : l.length ≤ 1073741823) :
    Calls Try.prog 28 #[.slice a l.length c, .slice a' m.length c'] w fun e w' => e = .returned (.bool (sameB l m)) ∧ Ext w w' := by
  obtain ⟨R, hR⟩ : ∃ R, R = sameB l m := ⟨_, rfl⟩
  rw [← hR]
  have HR := Lib.hid hR
  have H := Lib.hid h
  have H' := Lib.hid h'
  have HN := Lib.hid hn
  by_cases hlen : l.length = m.length
  · rw [← hlen] at H' ⊢
    have HLEN := Lib.hid hlen
    clear h h' hn hR hlen
    go_enter Try.func28, Try.ntmps28
    go_wp2
    go_loopw [5] (fun i wr => ∃ j : Nat, j ≤ l.length ∧ i = .int .i64 j ∧ Ext w wr ∧ ∀ (k : Nat) x y, k < j → l[k]? = some x → m[k]? = some y → x = y) (fun i _ => l.length - (intOf i).toNat)
    case atStart => exact ⟨0, by omega, rfl, by (repeat' (first | with_reducible exact Ext.refl _ | with_reducible refine Ext.ext ?_ _ | with_reducible refine Ext.alloc ?_ _ | with_reducible refine Ext.drew ?_ | with_reducible refine Ext.drewN ?_ _ | with_reducible assumption)), fun k x y hk => absurd hk (Nat.not_lt_zero k)⟩
    case round =>
      obtain ⟨j, hj, rfl, ⟨z, rfl⟩, hok⟩ := hrel
      have HOK := Lib.hid hok
      clear hok
      by_cases hlt : j < l.length
      · obtain ⟨x, hx⟩ : ∃ x, l[j]? = some x := ⟨l[j], List.getElem?_eq_getElem _⟩
        obtain ⟨y, hy⟩ : ∃ y, m[j]? = some y := ⟨m[j]'(by have := HLEN.out; omega), List.getElem?_eq_getElem _⟩
        obtain ⟨b, off, rfl, -⟩ := H.out.cells (by omega)
        obtain ⟨b', off', rfl, -⟩ := H'.out.cells (by omega)
        obtain ⟨q0, q1, q2, q3, q4, q5⟩ := cts_at H.out j x hx
        obtain ⟨p0, p1, p2, p3, p4, p5⟩ := cts_at H'.out j y hy
        haveI : LtSz b w.heap.size := ⟨World.block_lt_of_cell? _ _ q0⟩
        haveI : LtSz b' w.heap.size := ⟨World.block_lt_of_cell? _ _ p0⟩
        have i1 : (0 : Int) ≤ j := by omega
        have i2 : (j : Int) < l.length := by omega
        have ew : wrap64 ((j : Int) + 1) = ((j + 1 : Nat) : Int) := (IntWalk.wrap64_in _ ⟨by omega, by have := HN.out; omega⟩).trans (by omega)
        have NO := Lib.hid (show x ≠ y → false = R from fun e => by rw [HR.out, sameB_no (fun k => e (by rw [k, hy] at hx; exact (Option.some.inj hx).symm))])
        have ST := Lib.hid (show x = y → ∀ (k : Nat) x y, k < j + 1 → l[k]? = some x → m[k]? = some y → x = y from fun e k u v hk hu hv => by
          rcases Nat.lt_or_ge k j with h | h
          · exact HOK.out k u v h hu hv
          · obtain rfl : k = j := by omega
            rw [hx] at hu
            rw [hy] at hv
            cases hu
            cases hv
            exact e)
        have EQ := eqC_iff x y
        obtain ⟨xd, xa, xb, xc, xe, xn⟩ := x
        obtain ⟨yd, ya, yb, yc, ye, yn⟩ := y
        dsimp only at q0 q1 q2 q3 q4 q5 p0 p1 p2 p3 p4 p5
        clear hx hy
        unfold eqC at EQ
        dsimp only at EQ
        obtain ⟨b4, f4⟩ : ∃ b, ((xd == yd && (xa == ya && (xb == yb && (xc == yc && xe == ye)))) && xn == yn) = b := ⟨_, rfl⟩
        rw [f4] at EQ
        cases b4
        · have HF := Lib.hid (NO.out (fun e => absurd (EQ.2 e) (by decide)))
          clear NO ST EQ
          go_wp2
          refine wp_region_ext (by kernel_rfl) (by kernel_rfl) ?_
          repeat (go_big_quiet_step (fail))
          refine wpQuiet_nil ?_
          intro xK
          go_wp2
          go_returns
          exact ⟨retb rfl HF.out, by (repeat' (first | with_reducible exact Ext.refl _ | with_reducible refine Ext.ext ?_ _ | with_reducible refine Ext.alloc ?_ _ | with_reducible refine Ext.drew ?_ | with_reducible refine Ext.drewN ?_ _ | with_reducible assumption))⟩
        · have HS := Lib.hid (ST.out (EQ.1 rfl))
          clear NO ST EQ
          go_wp2
          refine wp_region_ext (by kernel_rfl) (by kernel_rfl) ?_
          repeat (go_big_quiet_step (fail))
          refine wpQuiet_nil ?_
          intro xK
          go_wp2
          exact ⟨⟨j + 1, by omega, congrArg (Value.int .i64) ew, by (repeat' (first | with_reducible exact Ext.refl _ | with_reducible refine Ext.ext ?_ _ | with_reducible refine Ext.alloc ?_ _ | with_reducible refine Ext.drew ?_ | with_reducible refine Ext.drewN ?_ _ | with_reducible assumption)), HS.out⟩, by rw [ew]; simp only [intOf]; omega⟩
      · obtain rfl : j = l.length := by omega
        have HS := Lib.hid (show true = R by rw [HR.out, sameB_yes (list_same HLEN.out (fun k x y h1 h2 => HOK.out k x y (List.getElem?_eq_some_iff.1 h1).1 h1 h2))])
        go_wp2
        go_returns
        exact ⟨retb rfl HS.out, by (repeat' (first | with_reducible exact Ext.refl _ | with_reducible refine Ext.ext ?_ _ | with_reducible refine Ext.alloc ?_ _ | with_reducible refine Ext.drew ?_ | with_reducible refine Ext.drewN ?_ _ | with_reducible assumption))⟩
  · have HF := Lib.hid (show false = R by rw [hR, sameB_no (fun e => hlen (by rw [e]))])
    have e0 : ((l.length : Int) != m.length) = true := by simp; omega
    clear h h' hn hR hlen
    go_enter Try.func28, Try.ntmps28
    go_wp2
    go_returns
    exact ⟨retb rfl HF.out, by (repeat' (first | with_reducible exact Ext.refl _ | with_reducible refine Ext.ext ?_ _ | with_reducible refine Ext.alloc ?_ _ | with_reducible refine Ext.drew ?_ | with_reducible refine Ext.drewN ?_ _ | with_reducible assumption))⟩
theorem same_rb {w : World} {l m : List Ct} {v u : Value} (h : Rb w l v) (h' : Rb w m u) (hn : l.length ≤ 1073741823) (b : Bool) (hb : sameB l m = b) :
    Calls Try.prog 28 #[v, u] w fun e w' => e = .returned (.bool b) ∧ Ext w w' := by
  subst hb
  obtain ⟨a, c, rfl, h⟩ := h
  obtain ⟨a', c', rfl, h'⟩ := h'
  exact refSame_any l m a a' c c' w h h' hn
set_option maxHeartbeats 4000000 in
theorem refRight_any (l : List Ct) (a : Option Addr) (n c : Nat) (w : World) (h : Rd w 6 n (.slice a n c) (cts l)) (hn : l.length = n) (hl : n ≤ 1073741824) :
    Calls Try.prog 27 #[.slice a n c] w fun e w' => e = .returned (.bool (rightC l)) ∧ Ext w w' := by
  have H := Lib.hid h
  have HN := Lib.hid hn
  have HL := Lib.hid hl
  have LS := Lib.hid (fun x y : Ct => fun w => ref_less_any x.d x.a x.b x.c x.e y.d y.a y.b y.c y.e w)
  have RT := Lib.hid (fun x : Ct => fun w => list_any x.t w)
  obtain ⟨R, hR⟩ : ∃ R, R = rightC l := ⟨_, rfl⟩
  rw [← hR]
  have HR := Lib.hid hR
  clear h hn hl hR
  go_enter Try.func27, Try.ntmps27
  go_wp2
  go_loopw [3] (fun i wr => ∃ j : Nat, j ≤ n ∧ i = .int .i64 j ∧ Ext w wr ∧ ∀ (k : Nat) (x : Ct), k < j → l[k]? = some x → okC x = true ∧ (∀ i y, k = i + 1 → l[i]? = some y → lessC y x = true)) (fun i _ => n - (intOf i).toNat)
  case atStart => exact ⟨0, by omega, rfl, by (repeat' (first | with_reducible exact Ext.refl _ | with_reducible refine Ext.ext ?_ _ | with_reducible refine Ext.alloc ?_ _ | with_reducible refine Ext.drew ?_ | with_reducible refine Ext.drewN ?_ _ | with_reducible assumption)), fun k x hk => absurd hk (Nat.not_lt_zero k)⟩
  case round =>
    obtain ⟨j, hj, rfl, ⟨z, rfl⟩, hok⟩ := hrel
    have HOK := Lib.hid hok
    clear hok
    by_cases hlt : j < n
    · obtain ⟨x, hx⟩ : ∃ x, l[j]? = some x := ⟨l[j]'(by have := HN.out; omega), List.getElem?_eq_getElem _⟩
      obtain ⟨b, off, rfl, -⟩ := H.out.cells (by omega)
      obtain ⟨q0, q1, q2, q3, q4, q5⟩ := cts_at H.out j x hx
      haveI : LtSz b w.heap.size := ⟨World.block_lt_of_cell? _ _ q0⟩
      have i1 : (0 : Int) ≤ j := by omega
      have i2 : (j : Int) < n := by omega
      have ew : wrap64 ((j : Int) + 1) = ((j + 1 : Nat) : Int) := (IntWalk.wrap64_in _ ⟨by omega, by have := HL.out; omega⟩).trans (by omega)
      have HX := Lib.hid hx
      have STEP : okC x = true → (∀ i y, j = i + 1 → l[i]? = some y → lessC y x = true) → ∀ (k : Nat) (x : Ct), k < j + 1 → l[k]? = some x → okC x = true ∧ (∀ i y, k = i + 1 → l[i]? = some y → lessC y x = true) := fun h1 h2 k x' hk hx' => by
        rcases Nat.lt_or_ge k j with h | h
        · exact HOK.out k x' h hx'
        · obtain rfl : k = j := by omega
          rw [HX.out] at hx'
          cases hx'
          exact ⟨h1, h2⟩
      have ST := Lib.hid STEP
      clear STEP hx
      have RX := Lib.hid (fun w => RT.out x w)
      obtain ⟨b0, f0⟩ : ∃ b, _root_.Go.Proofs.Ytfpmejbgmgdedaa.rightB x.t = b := ⟨_, rfl⟩
      obtain ⟨b1, f1⟩ : ∃ b, (x.n == 0) = b := ⟨_, rfl⟩
      obtain ⟨b2, f2⟩ : ∃ b, decide (2147483648 < x.n) = b := ⟨_, rfl⟩
      obtain ⟨b3, f3⟩ : ∃ b, decide (x.n < -2147483648) = b := ⟨_, rfl⟩
      have hk : okC x = (b0 && (!b1 && (!b2 && !b3))) := by
        subst f0 f1 f2 f3
        show (_ && (!(x.n == 0) && decide _)) = _
        congr 2
        rw [Bool.eq_iff_iff]
        simp only [Bool.and_eq_true, decide_eq_true_eq, Bool.not_eq_true', decide_eq_false_iff_not]
        omega
      have HK := Lib.hid hk
      rw [f0] at RX
      unfold Ct.t at RX
      obtain ⟨xd, xa, xb, xc, xe, xn⟩ := x
      dsimp only at q0 q1 q2 q3 q4 q5 RX f1 f2 f3
      clear hk f0
      cases b0
      case false =>
        have RR := Lib.hid (show false = R by rw [HR.out, right_no1 HX.out (by rw [HK.out]; rfl)])
        go_wp2_with (first | (go_at_call 45; (with_reducible refine (RX.out _).mono ?_); rintro e w' ⟨a1, n1, c1, rfl, x1, rfl⟩))
        go_returns
        exact ⟨retb rfl RR.out, by (repeat' (first | with_reducible exact Ext.refl _ | with_reducible refine Ext.ext ?_ _ | with_reducible refine Ext.alloc ?_ _ | with_reducible refine Ext.drew ?_ | with_reducible refine Ext.drewN ?_ _ | with_reducible assumption))⟩
      case true =>
      cases b1
      case true =>
        have RR := Lib.hid (show false = R by rw [HR.out, right_no1 HX.out (by rw [HK.out]; rfl)])
        go_wp2_with (first | (go_at_call 45; (with_reducible refine (RX.out _).mono ?_); rintro e w' ⟨a1, n1, c1, rfl, x1, rfl⟩))
        go_returns
        exact ⟨retb rfl RR.out, by (repeat' (first | with_reducible exact Ext.refl _ | with_reducible refine Ext.ext ?_ _ | with_reducible refine Ext.alloc ?_ _ | with_reducible refine Ext.drew ?_ | with_reducible refine Ext.drewN ?_ _ | with_reducible assumption))⟩
      case false =>
      cases b2
      case true =>
        have RR := Lib.hid (show false = R by rw [HR.out, right_no1 HX.out (by rw [HK.out]; rfl)])
        go_wp2_with (first | (go_at_call 45; (with_reducible refine (RX.out _).mono ?_); rintro e w' ⟨a1, n1, c1, rfl, x1, rfl⟩))
        go_returns
        exact ⟨retb rfl RR.out, by (repeat' (first | with_reducible exact Ext.refl _ | with_reducible refine Ext.ext ?_ _ | with_reducible refine Ext.alloc ?_ _ | with_reducible refine Ext.drew ?_ | with_reducible refine Ext.drewN ?_ _ | with_reducible assumption))⟩
      case false =>
      cases b3
      case true =>
        have RR := Lib.hid (show false = R by rw [HR.out, right_no1 HX.out (by rw [HK.out]; rfl)])
        go_wp2_with (first | (go_at_call 45; (with_reducible refine (RX.out _).mono ?_); rintro e w' ⟨a1, n1, c1, rfl, x1, rfl⟩))
        go_returns
        exact ⟨retb rfl RR.out, by (repeat' (first | with_reducible exact Ext.refl _ | with_reducible refine Ext.ext ?_ _ | with_reducible refine Ext.alloc ?_ _ | with_reducible refine Ext.drew ?_ | with_reducible refine Ext.drewN ?_ _ | with_reducible assumption))⟩
      case false =>
        by_cases h0 : j = 0
        · have j0 : decide (0 < (j : Int)) = false := decide_eq_false (by omega)
          have j0' : decide (0 < j) = false := decide_eq_false (by omega)
          have H0 := Lib.hid h0
          clear h0
          go_wp2_with (first | (go_at_call 45; (with_reducible refine (RX.out _).mono ?_); rintro e w' ⟨a1, n1, c1, rfl, x1, rfl⟩))
          refine wp_region_ext (by kernel_rfl) (by kernel_rfl) ?_
          repeat (go_big_quiet_step (fail))
          refine wpQuiet_nil ?_
          intro xK
          go_wp2
          exact ⟨⟨j + 1, by omega, congrArg (Value.int .i64) ew, by (repeat' (first | with_reducible exact Ext.refl _ | with_reducible refine Ext.ext ?_ _ | with_reducible refine Ext.alloc ?_ _ | with_reducible refine Ext.drew ?_ | with_reducible refine Ext.drewN ?_ _ | with_reducible assumption)), ST.out (by rw [HK.out]; rfl) (fun i y hi => by have := H0.out; omega)⟩, by rw [ew]; simp only [intOf]; omega⟩
        · have j0 : decide (0 < (j : Int)) = true := decide_eq_true (by omega)
          have j0' : decide (0 < j) = true := decide_eq_true (by omega)
          obtain ⟨i, hi⟩ : ∃ i, j = i + 1 := ⟨j - 1, by omega⟩
          have HI := Lib.hid hi
          have ei : wrap64 ((j : Int) - 1) = (i : Int) := (IntWalk.wrap64_in _ ⟨by omega, by have := HL.out; omega⟩).trans (by omega)
          have i3 : (0 : Int) ≤ i := by omega
          have i4 : (i : Int) < n := by omega
          obtain ⟨y, hy⟩ : ∃ y, l[i]? = some y := ⟨l[i]'(by have := HN.out; omega), List.getElem?_eq_getElem _⟩
          have HY := Lib.hid hy
          obtain ⟨p0, p1, p2, p3, p4, p5⟩ := cts_at H.out i y hy
          have LN := Lib.hid (fun w => LS.out y ⟨xd, xa, xb, xc, xe, xn⟩ w)
          obtain ⟨b4, f4⟩ : ∃ b, lessC y ⟨xd, xa, xb, xc, xe, xn⟩ = b := ⟨_, rfl⟩
          have HL4 := Lib.hid f4
          unfold lessC Ct.t at f4
          rw [f4] at LN
          obtain ⟨yd, ya, yb, yc, ye, yn⟩ := y
          dsimp only at LN p0 p1 p2 p3 p4 p5
          clear h0 hi hy f4
          cases b4
          · have RR := Lib.hid (show false = R by rw [HR.out, right_no2 HY.out (by rw [← HI.out]; exact HX.out) HL4.out])
            go_wp2_with (first | (go_at_call 45; (with_reducible refine (RX.out _).mono ?_); rintro e w' ⟨a1, n1, c1, rfl, x1, rfl⟩))
            refine wp_region_ext (by kernel_rfl) (by kernel_rfl) ?_
            repeat (go_big_quiet_step (first | (go_at_call 47; (apply quiet_of; (with_reducible exact LN.out _); (intro w' hx; obtain ⟨z, rfl⟩ := hx; (try simp only [ext_ext, add_assoc]); exact ⟨_, rfl⟩)))))
            refine wpQuiet_nil ?_
            intro xK
            go_wp2
            go_returns
            exact ⟨retb rfl RR.out, by (repeat' (first | with_reducible exact Ext.refl _ | with_reducible refine Ext.ext ?_ _ | with_reducible refine Ext.alloc ?_ _ | with_reducible refine Ext.drew ?_ | with_reducible refine Ext.drewN ?_ _ | with_reducible assumption))⟩
          · go_wp2_with (first | (go_at_call 45; (with_reducible refine (RX.out _).mono ?_); rintro e w' ⟨a1, n1, c1, rfl, x1, rfl⟩))
            refine wp_region_ext (by kernel_rfl) (by kernel_rfl) ?_
            repeat (go_big_quiet_step (first | (go_at_call 47; (apply quiet_of; (with_reducible exact LN.out _); (intro w' hx; obtain ⟨z, rfl⟩ := hx; (try simp only [ext_ext, add_assoc]); exact ⟨_, rfl⟩)))))
            refine wpQuiet_nil ?_
            intro xK
            go_wp2
            exact ⟨⟨j + 1, by omega, congrArg (Value.int .i64) ew, by (repeat' (first | with_reducible exact Ext.refl _ | with_reducible refine Ext.ext ?_ _ | with_reducible refine Ext.alloc ?_ _ | with_reducible refine Ext.drew ?_ | with_reducible refine Ext.drewN ?_ _ | with_reducible assumption)), ST.out (by rw [HK.out]; rfl) (fun i' y hi' hy' => by
              have := HI.out
              obtain rfl : i' = i := by omega
              rw [HY.out] at hy'
              cases hy'
              exact HL4.out)⟩, by rw [ew]; simp only [intOf]; omega⟩
    · obtain rfl : j = n := by omega
      have RR := Lib.hid (show true = R by rw [HR.out, right_yes (fun k x hx => HOK.out k x (by have := (List.getElem?_eq_some_iff.1 hx).1; have := HN.out; omega) hx)])
      go_wp2
      go_returns
      exact ⟨retb rfl RR.out, by (repeat' (first | with_reducible exact Ext.refl _ | with_reducible refine Ext.ext ?_ _ | with_reducible refine Ext.alloc ?_ _ | with_reducible refine Ext.drew ?_ | with_reducible refine Ext.drewN ?_ _ | with_reducible assumption))⟩
theorem refRight_rb {w : World} {l : List Ct} {v : Value} (h : Rb w l v) (hn : l.length ≤ 1073741823) (b : Bool) (hb : rightC l = b) :
    Calls Try.prog 27 #[v] w fun e w' => e = .returned (.bool b) ∧ Ext w w' := by
  obtain ⟨a, c, rfl, h⟩ := h
  subst hb
  exact refRight_any l a _ c w h rfl (by omega)
end Go.Proofs.Ytfpmejbgmgdedaa.Fr

/- Front: the reference's Same. -/
import Derived.Test.YtmngjifcgfnogaaFr5
namespace Go.Proofs.Ytmngjifcgfnogaa.Fr
set_option linter.unusedSimpArgs false
set_option linter.unusedVariables false
set_option maxRecDepth 100000
open Go.RowKit

theorem eq_count (d : Nat) (w : World) (x a b c e n x' a' b' c' e' n' : Int) : (Op.equalIn (d + 4) 65 (.agg #[.int .i64 x, .int .i64 a, .int .i64 b, .int .i64 c, .int .i64 e, .int .i64 n]) (.agg #[.int .i64 x', .int .i64 a', .int .i64 b', .int .i64 c', .int .i64 e', .int .i64 n'])).run Try.prog w = .ok ((x == x' && (a == a' && (b == b' && (c == c' && e == e')))) && n == n') w := by
  rw [run_equalIn_struct (ht := by kernel_rfl) (hp := by kernel_rfl)]
  have q1 : ∀ w, (isAgg 47).run Try.prog w = .ok true w := fun w => by rfl
  have q2 : ∀ w, (isAgg 3).run Try.prog w = .ok false w := fun w => by rfl
  have q3 : ∀ w, (sizeOf 47).run Try.prog w = .ok 5 w := fun w => by rfl
  have q4 : ∀ w, (sizeOf 3).run Try.prog w = .ok 1 w := fun w => by rfl
  have e1 := eq_time d w x a b c e x' a' b' c' e'
  have e2 : (Op.equalIn (d + 3) 3 (.int .i64 n) (.int .i64 n')).run Try.prog w = .ok (n == n') w := run_equalIn_int w (d + 2) 3 .i64 .i64 n n' Try.underlying3
  cases h1 : (x == x' && (a == a' && (b == b' && (c == c' && e == e')))) <;> cases h2 : n == n' <;> rw [h1] at e1 <;> rw [h2] at e2 <;> simp [Program.fieldsOf, Try.underlying65, Op.eqFields, part, q1, q2, q3, q4, e1, e2]
theorem guard_count : Try.prog.eqGuardType Try.prog.depth 65 = false := by kernel_rfl
@[go_sem high] theorem same_count (w : World) (x a b c e n x' a' b' c' e' n' : Int) : (Op.equalIn 10000 65 (.agg #[.int .i64 x, .int .i64 a, .int .i64 b, .int .i64 c, .int .i64 e, .int .i64 n]) (.agg #[.int .i64 x', .int .i64 a', .int .i64 b', .int .i64 c', .int .i64 e', .int .i64 n'])).run Try.prog w = .ok ((x == x' && (a == a' && (b == b' && (c == c' && e == e')))) && n == n') w := eq_count 9996 w x a b c e n x' a' b' c' e' n'
@[go_sem high] theorem gd_count (op : BinOp) (x y : Operand) (xs ys : Array Value) (w : World) : (eqGuard op 65 x y (.agg xs) (.agg ys)).run Try.prog w = .ok () w := run_eqGuard_agg w op _ x y xs ys guard_count
@[go_sem high] theorem neq_count (w : World) (x a b c e n x' a' b' c' e' n' : Int) : (binOp .neq 65 (.agg #[.int .i64 x, .int .i64 a, .int .i64 b, .int .i64 c, .int .i64 e, .int .i64 n]) (.agg #[.int .i64 x', .int .i64 a', .int .i64 b', .int .i64 c', .int .i64 e', .int .i64 n'])).run Try.prog w = .ok (.bool (!((x == x' && (a == a' && (b == b' && (c == c' && e == e')))) && n == n'))) w := by
  rw [run_neq_struct, same_count]; rfl
def eqC (x y : Ct) : Bool := (x.d == y.d && (x.a == y.a && (x.b == y.b && (x.c == y.c && x.e == y.e)))) && x.n == y.n
theorem eqC_iff (x y : Ct) : eqC x y = true ↔ x = y := by
  obtain ⟨xd, xa, xb, xc, xe, xn⟩ := x
  obtain ⟨yd, ya, yb, yc, ye, yn⟩ := y
  unfold eqC
  simp only [Bool.and_eq_true, beq_iff_eq, Ct.mk.injEq]
  constructor
  · rintro ⟨⟨h1, h2, h3, h4, h5⟩, h6⟩; exact ⟨h1, h2, h3, h4, h5, h6⟩
  · rintro ⟨h1, h2, h3, h4, h5, h6⟩; exact ⟨⟨h1, h2, h3, h4, h5⟩, h6⟩
set_option maxHeartbeats 4000000 in
theorem refSame_any (l m : List Ct) (a a' : Option Addr) (c c' : Nat) (w : World) (h : Rd w 6 l.length (.slice a l.length c) (cts l)) (h' : Rd w 6 m.length (.slice a' m.length c') (cts m)) (hn : l.length ≤ 1073741823) :
    Calls Try.prog 33 #[.slice a l.length c, .slice a' m.length c'] w fun e w' => e = .returned (.bool (sameB l m)) ∧ Ext w w' := by
  obtain ⟨R, hR⟩ : ∃ R, R = sameB l m := ⟨_, rfl⟩
  rw [← hR]
  have HR := Lib.hid hR
  have H := Lib.hid h
  have H' := Lib.hid h'
  have HN := Lib.hid hn
  by_cases hlen : l.length = m.length
  · rw [← hlen] at H' ⊢
    have HLEN := Lib.hid hlen
    clear h h' hn hR hlen
    go_enter Try.func33, Try.ntmps33
    go_wp2
    go_loopw [5] (fun i wr => ∃ j : Nat, j ≤ l.length ∧ i = .int .i64 j ∧ Ext w wr ∧ ∀ (k : Nat) x y, k < j → l[k]? = some x → m[k]? = some y → x = y) (fun i _ => l.length - (intOf i).toNat)
    case atStart => exact ⟨0, by omega, rfl, by (repeat' (first | with_reducible exact Ext.refl _ | with_reducible refine Ext.ext ?_ _ | with_reducible refine Ext.alloc ?_ _ | with_reducible refine Ext.drew ?_ | with_reducible refine Ext.drewN ?_ _ | with_reducible assumption)), fun k x y hk => absurd hk (Nat.not_lt_zero k)⟩
    case round =>
      obtain ⟨j, hj, rfl, ⟨z, rfl⟩, hok⟩ := hrel
      have HOK := Lib.hid hok
      clear hok
      by_cases hlt : j < l.length
      · obtain ⟨x, hx⟩ : ∃ x, l[j]? = some x := ⟨l[j], List.getElem?_eq_getElem _⟩
        obtain ⟨y, hy⟩ : ∃ y, m[j]? = some y := ⟨m[j]'(by have := HLEN.out; omega), List.getElem?_eq_getElem _⟩
        obtain ⟨b, off, rfl, -⟩ := H.out.cells (by omega)
        obtain ⟨b', off', rfl, -⟩ := H'.out.cells (by omega)
        obtain ⟨q0, q1, q2, q3, q4, q5⟩ := cts_at H.out j x hx
        obtain ⟨p0, p1, p2, p3, p4, p5⟩ := cts_at H'.out j y hy
        haveI : LtSz b w.heap.size := ⟨World.block_lt_of_cell? _ _ q0⟩
        haveI : LtSz b' w.heap.size := ⟨World.block_lt_of_cell? _ _ p0⟩
        have i1 : (0 : Int) ≤ j := by omega
        have i2 : (j : Int) < l.length := by omega
        have ew : wrap64 ((j : Int) + 1) = ((j + 1 : Nat) : Int) := (IntWalk.wrap64_in _ ⟨by omega, by have := HN.out; omega⟩).trans (by omega)
        have NO := Lib.hid (show x ≠ y → false = R from fun e => by rw [HR.out, sameB_no (fun k => e (by rw [k, hy] at hx; exact (Option.some.inj hx).symm))])
        have ST := Lib.hid (show x = y → ∀ (k : Nat) x y, k < j + 1 → l[k]? = some x → m[k]? = some y → x = y from fun e k u v hk hu hv => by
          rcases Nat.lt_or_ge k j with h | h
          · exact HOK.out k u v h hu hv
          · obtain rfl : k = j := by omega
            rw [hx] at hu
            rw [hy] at hv
            cases hu
            cases hv
            exact e)
        have EQ := eqC_iff x y
        obtain ⟨xd, xa, xb, xc, xe, xn⟩ := x
        obtain ⟨yd, ya, yb, yc, ye, yn⟩ := y
        dsimp only at q0 q1 q2 q3 q4 q5 p0 p1 p2 p3 p4 p5
        clear hx hy
        unfold eqC at EQ
        dsimp only at EQ
        obtain ⟨b4, f4⟩ : ∃ b, ((xd == yd && (xa == ya && (xb == yb && (xc == yc && xe == ye)))) && xn == yn) = b := ⟨_, rfl⟩
        rw [f4] at EQ
        cases b4
        · have HF := Lib.hid (NO.out (fun e => absurd (EQ.2 e) (by decide)))
          clear NO ST EQ
          go_wp2
          refine wp_region_ext (by kernel_rfl) (by kernel_rfl) ?_
          repeat (go_big_quiet_step (fail))
          refine wpQuiet_nil ?_
          intro xK
          go_wp2
          go_returns
          exact ⟨retb rfl HF.out, by (repeat' (first | with_reducible exact Ext.refl _ | with_reducible refine Ext.ext ?_ _ | with_reducible refine Ext.alloc ?_ _ | with_reducible refine Ext.drew ?_ | with_reducible refine Ext.drewN ?_ _ | with_reducible assumption))⟩
        · have HS := Lib.hid (ST.out (EQ.1 rfl))
          clear NO ST EQ
          go_wp2
          refine wp_region_ext (by kernel_rfl) (by kernel_rfl) ?_
          repeat (go_big_quiet_step (fail))
          refine wpQuiet_nil ?_
          intro xK
          go_wp2
          exact ⟨⟨j + 1, by omega, congrArg (Value.int .i64) ew, by (repeat' (first | with_reducible exact Ext.refl _ | with_reducible refine Ext.ext ?_ _ | with_reducible refine Ext.alloc ?_ _ | with_reducible refine Ext.drew ?_ | with_reducible refine Ext.drewN ?_ _ | with_reducible assumption)), HS.out⟩, by rw [ew]; simp only [intOf]; omega⟩
      · obtain rfl : j = l.length := by omega
        have HS := Lib.hid (show true = R by rw [HR.out, sameB_yes (list_same HLEN.out (fun k x y h1 h2 => HOK.out k x y (List.getElem?_eq_some_iff.1 h1).1 h1 h2))])
        go_wp2
        go_returns
        exact ⟨retb rfl HS.out, by (repeat' (first | with_reducible exact Ext.refl _ | with_reducible refine Ext.ext ?_ _ | with_reducible refine Ext.alloc ?_ _ | with_reducible refine Ext.drew ?_ | with_reducible refine Ext.drewN ?_ _ | with_reducible assumption))⟩
  · have HF := Lib.hid (show false = R by rw [hR, sameB_no (fun e => hlen (by rw [e]))])
    have e0 : ((l.length : Int) != m.length) = true := by simp; omega
    clear h h' hn hR hlen
    go_enter Try.func33, Try.ntmps33
    go_wp2
    go_returns
    exact ⟨retb rfl HF.out, by (repeat' (first | with_reducible exact Ext.refl _ | with_reducible refine Ext.ext ?_ _ | with_reducible refine Ext.alloc ?_ _ | with_reducible refine Ext.drew ?_ | with_reducible refine Ext.drewN ?_ _ | with_reducible assumption))⟩
theorem same_rb {w : World} {l m : List Ct} {v u : Value} (h : Rb w l v) (h' : Rb w m u) (hn : l.length ≤ 1073741823) (b : Bool) (hb : sameB l m = b) :
    Calls Try.prog 33 #[v, u] w fun e w' => e = .returned (.bool b) ∧ Ext w w' := by
  subst hb
  obtain ⟨a, c, rfl, h⟩ := h
  obtain ⟨a', c', rfl, h'⟩ := h'
  exact refSame_any l m a a' c c' w h h' hn
end Go.Proofs.Ytmngjifcgfnogaa.Fr

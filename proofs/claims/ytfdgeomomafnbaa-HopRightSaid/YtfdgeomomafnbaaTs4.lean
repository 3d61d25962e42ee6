/- Contracts of ts.Join and ts.Meet. -/
import Derived.Test.YtfdgeomomafnbaaTs3
namespace Go.Proofs.Ytfdgeomomafnbaa
set_option linter.unusedSimpArgs false
set_option linter.unusedVariables false
open Go.RowKit

def imax (x y : Int) : Int := if x < y then y else x
def imin (x y : Int) : Int := if y < x then y else x
theorem imax_eq (x y : Int) : (if x < y then y else x) = imax x y := rfl
theorem imin_eq (x y : Int) : (if y < x then y else x) = imin x y := rfl
def joinT (s t : Tm) : Tm := ⟨s.d, imax s.a t.a, imax s.b t.b, imax s.c t.c, imax s.e t.e⟩
def meetT (s t : Tm) : Tm := ⟨s.d, imin s.a t.a, imin s.b t.b, imin s.c t.c, imin s.e t.e⟩
/-- A timestamp as a value. -/
def tv (t : Tm) : Value := .agg #[.int .i64 t.d, .int .i64 t.a, .int .i64 t.b, .int .i64 t.c, .int .i64 t.e]
@[go_sem] theorem tv_eq (t : Tm) : tv t = .agg #[.int .i64 t.d, .int .i64 t.a, .int .i64 t.b, .int .i64 t.c, .int .i64 t.e] := rfl
def tz : Tm := ⟨0, 0, 0, 0, 0⟩

theorem join_no (d a b c e d' a' b' c' e' : Int) (w : World) (h1 : bothB ⟨d, a, b, c, e⟩ ⟨d', a', b', c', e'⟩ = false) :
    Calls Try.prog 23 #[.agg #[.int .i64 d, .int .i64 a, .int .i64 b, .int .i64 c, .int .i64 e], .agg #[.int .i64 d', .int .i64 a', .int .i64 b', .int .i64 c', .int .i64 e']] w
      fun r w' => r = .returned (.tuple #[tv tz, .bool false]) ∧ Ext w w' := by
  go_enter Try.func23, Try.ntmps23
  go_wp2_with (go_at_call 47; refine (both_any _ _ _ _ _ _ _ _ _ _ _).mono ?_; rintro r w' ⟨rfl, x, rfl⟩)
  go_returns
  exact ⟨rett rfl rfl, by (repeat' (first | with_reducible exact Ext.refl _ | with_reducible refine Ext.ext ?_ _ | with_reducible refine Ext.alloc ?_ _ | with_reducible refine Ext.drew ?_ | with_reducible refine Ext.drewN ?_ _ | with_reducible assumption))⟩

set_option maxHeartbeats 400000 in
theorem join_yes (d a b c e d' a' b' c' e' : Int) (w : World) (h1 : bothB ⟨d, a, b, c, e⟩ ⟨d', a', b', c', e'⟩ = true) :
    Calls Try.prog 23 #[.agg #[.int .i64 d, .int .i64 a, .int .i64 b, .int .i64 c, .int .i64 e], .agg #[.int .i64 d', .int .i64 a', .int .i64 b', .int .i64 c', .int .i64 e']] w
      fun r w' => r = .returned (.tuple #[tv (joinT ⟨d, a, b, c, e⟩ ⟨d', a', b', c', e'⟩), .bool true]) ∧ Ext w w' := by
  have hix := index_c a' b' c' e'
  have hmx := imax_eq
  go_enter Try.func23, Try.ntmps23
  go_wp2_with (go_at_call 47; refine (both_any _ _ _ _ _ _ _ _ _ _ _).mono ?_; rintro r w' ⟨rfl, x, rfl⟩)
  refine wp_loop_rounds 5 ?_
  iterate 5
    rw [rounds_succ]
    go_wp2
  go_returns
  refine ⟨rett rfl ?_, by (repeat' (first | with_reducible exact Ext.refl _ | with_reducible refine Ext.ext ?_ _ | with_reducible refine Ext.alloc ?_ _ | with_reducible refine Ext.drew ?_ | with_reducible refine Ext.drewN ?_ _ | with_reducible assumption))⟩
  simp [cAt, joinT, tv]

theorem meet_no (d a b c e d' a' b' c' e' : Int) (w : World) (h1 : bothB ⟨d, a, b, c, e⟩ ⟨d', a', b', c', e'⟩ = false) :
    Calls Try.prog 26 #[.agg #[.int .i64 d, .int .i64 a, .int .i64 b, .int .i64 c, .int .i64 e], .agg #[.int .i64 d', .int .i64 a', .int .i64 b', .int .i64 c', .int .i64 e']] w
      fun r w' => r = .returned (.tuple #[tv tz, .bool false]) ∧ Ext w w' := by
  go_enter Try.func26, Try.ntmps26
  go_wp2_with (go_at_call 47; refine (both_any _ _ _ _ _ _ _ _ _ _ _).mono ?_; rintro r w' ⟨rfl, x, rfl⟩)
  go_returns
  exact ⟨rett rfl rfl, by (repeat' (first | with_reducible exact Ext.refl _ | with_reducible refine Ext.ext ?_ _ | with_reducible refine Ext.alloc ?_ _ | with_reducible refine Ext.drew ?_ | with_reducible refine Ext.drewN ?_ _ | with_reducible assumption))⟩

set_option maxHeartbeats 400000 in
theorem meet_yes (d a b c e d' a' b' c' e' : Int) (w : World) (h1 : bothB ⟨d, a, b, c, e⟩ ⟨d', a', b', c', e'⟩ = true) :
    Calls Try.prog 26 #[.agg #[.int .i64 d, .int .i64 a, .int .i64 b, .int .i64 c, .int .i64 e], .agg #[.int .i64 d', .int .i64 a', .int .i64 b', .int .i64 c', .int .i64 e']] w
      fun r w' => r = .returned (.tuple #[tv (meetT ⟨d, a, b, c, e⟩ ⟨d', a', b', c', e'⟩), .bool true]) ∧ Ext w w' := by
  have hix := index_c a' b' c' e'
  have hmx := imin_eq
  go_enter Try.func26, Try.ntmps26
  go_wp2_with (go_at_call 47; refine (both_any _ _ _ _ _ _ _ _ _ _ _).mono ?_; rintro r w' ⟨rfl, x, rfl⟩)
  refine wp_loop_rounds 5 ?_
  iterate 5
    rw [rounds_succ]
    go_wp2
  go_returns
  refine ⟨rett rfl ?_, by (repeat' (first | with_reducible exact Ext.refl _ | with_reducible refine Ext.ext ?_ _ | with_reducible refine Ext.alloc ?_ _ | with_reducible refine Ext.drew ?_ | with_reducible refine Ext.drewN ?_ _ | with_reducible assumption))⟩
  simp [cAt, meetT, tv]
end Go.Proofs.Ytfdgeomomafnbaa

/- Contracts of hop.made, Same, Enter, Leave, Next. -/
import Derived.Test.YtfdgeomomafnbaaHop1
namespace Go.Proofs.Ytfdgeomomafnbaa
set_option linter.unusedSimpArgs false
set_option linter.unusedVariables false
open Go.RowKit

/-- A step's value, laid out as its cells. -/
def hv (h : Hp) : Value := .agg #[.int .i64 h.f, .int .i64 h.k, .int .i64 h.l, .int .i64 h.a, .int .i64 h.b, .int .i64 h.c, .int .i64 h.e, .int .i64 h.p, .int .i64 h.q, .int .i64 h.r, .int .i64 h.s]
@[go_sem] theorem hv_eq (h : Hp) : hv h = .agg #[.int .i64 h.f, .int .i64 h.k, .int .i64 h.l, .int .i64 h.a, .int .i64 h.b, .int .i64 h.c, .int .i64 h.e, .int .i64 h.p, .int .i64 h.q, .int .i64 h.r, .int .i64 h.s] := rfl
def hz : Hp := ⟨0, 0, 0, 0, 0, 0, 0, 0, 0, 0, 0⟩

theorem made_no (f k l a b c e p q r s : Int) (w : World) (h : hopB ⟨f, k, l, a, b, c, e, p, q, r, s⟩ = false) :
    Calls Try.prog 52 #[.agg #[.int .i64 f, .int .i64 k, .int .i64 l, .int .i64 a, .int .i64 b, .int .i64 c, .int .i64 e, .int .i64 p, .int .i64 q, .int .i64 r, .int .i64 s]] w fun r' w' => r' = .returned (.tuple #[hv hz, .bool false]) ∧ Ext w w' := by
  have H := Lib.hid h
  clear h
  go_enter Try.func52, Try.ntmps52
  go_wp2_with (go_at_call 35; refine (hopRight_any _ _ _ _ _ _ _ _ _ _ _ _).mono ?_; rw [H.out]; rintro r w' ⟨rfl, y, rfl⟩)
  go_returns
  exact ⟨rett rfl rfl, by (repeat' (first | with_reducible exact Ext.refl _ | with_reducible refine Ext.ext ?_ _ | with_reducible refine Ext.alloc ?_ _ | with_reducible refine Ext.drew ?_ | with_reducible refine Ext.drewN ?_ _ | with_reducible assumption))⟩
theorem made_yes (f k l a b c e p q r s : Int) (w : World) (h : hopB ⟨f, k, l, a, b, c, e, p, q, r, s⟩ = true) :
    Calls Try.prog 52 #[.agg #[.int .i64 f, .int .i64 k, .int .i64 l, .int .i64 a, .int .i64 b, .int .i64 c, .int .i64 e, .int .i64 p, .int .i64 q, .int .i64 r, .int .i64 s]] w fun r' w' => r' = .returned (.tuple #[hv ⟨f, k, l, a, b, c, e, p, q, r, s⟩, .bool true]) ∧ Ext w w' := by
  have H := Lib.hid h
  clear h
  go_enter Try.func52, Try.ntmps52
  go_wp2_with (go_at_call 35; refine (hopRight_any _ _ _ _ _ _ _ _ _ _ _ _).mono ?_; rw [H.out]; rintro r w' ⟨rfl, y, rfl⟩)
  go_returns
  exact ⟨rett rfl rfl, by (repeat' (first | with_reducible exact Ext.refl _ | with_reducible refine Ext.ext ?_ _ | with_reducible refine Ext.alloc ?_ _ | with_reducible refine Ext.drew ?_ | with_reducible refine Ext.drewN ?_ _ | with_reducible assumption))⟩
/-- What hop.made answers. -/
def madeR (h : Hp) : Hp × Bool := if hopB h then (h, true) else (hz, false)
theorem made_any (f k l a b c e p q r s : Int) (w : World) :
    Calls Try.prog 52 #[.agg #[.int .i64 f, .int .i64 k, .int .i64 l, .int .i64 a, .int .i64 b, .int .i64 c, .int .i64 e, .int .i64 p, .int .i64 q, .int .i64 r, .int .i64 s]] w fun r' w' => r' = .returned (.tuple #[hv (madeR ⟨f, k, l, a, b, c, e, p, q, r, s⟩).1, .bool (madeR ⟨f, k, l, a, b, c, e, p, q, r, s⟩).2]) ∧ Ext w w' := by
  cases h : hopB ⟨f, k, l, a, b, c, e, p, q, r, s⟩
  · have := made_no f k l a b c e p q r s w h
    simpa [madeR, h] using this
  · have := made_yes f k l a b c e p q r s w h
    simpa [madeR, h] using this
theorem hopSame_any (d : Int) (w : World) :
    Calls Try.prog 39 #[.int .i64 d] w fun r' w' => r' = .returned (.tuple #[hv (madeR ⟨d, d, 0, 0, 0, 0, 0, 0, 0, 0, 0⟩).1, .bool (madeR ⟨d, d, 0, 0, 0, 0, 0, 0, 0, 0, 0⟩).2]) ∧ Ext w w' := by
  go_enter Try.func39, Try.ntmps39
  go_wp2_with (go_at_call 52; refine (made_any _ _ _ _ _ _ _ _ _ _ _ _).mono ?_; rintro r w' ⟨rfl, y, rfl⟩)
  go_returns
  exact ⟨rett rfl rfl, by (repeat' (first | with_reducible exact Ext.refl _ | with_reducible refine Ext.ext ?_ _ | with_reducible refine Ext.alloc ?_ _ | with_reducible refine Ext.drew ?_ | with_reducible refine Ext.drewN ?_ _ | with_reducible assumption))⟩
theorem hopEnter_any (d : Int) (w : World) :
    Calls Try.prog 40 #[.int .i64 d] w fun r' w' => r' = .returned (.tuple #[hv (madeR ⟨d, d, 1, 0, 0, 0, 0, 0, 0, 0, 0⟩).1, .bool (madeR ⟨d, d, 1, 0, 0, 0, 0, 0, 0, 0, 0⟩).2]) ∧ Ext w w' := by
  go_enter Try.func40, Try.ntmps40
  go_wp2_with (go_at_call 52; refine (made_any _ _ _ _ _ _ _ _ _ _ _ _).mono ?_; rintro r w' ⟨rfl, y, rfl⟩)
  go_returns
  exact ⟨rett rfl rfl, by (repeat' (first | with_reducible exact Ext.refl _ | with_reducible refine Ext.ext ?_ _ | with_reducible refine Ext.alloc ?_ _ | with_reducible refine Ext.drew ?_ | with_reducible refine Ext.drewN ?_ _ | with_reducible assumption))⟩
theorem hopLeave_no (d : Int) (w : World) (h : d < 2) :
    Calls Try.prog 41 #[.int .i64 d] w fun r' w' => r' = .returned (.tuple #[hv hz, .bool false]) ∧ Ext w w' := by
  go_enter Try.func41, Try.ntmps41
  go_wp2
  go_returns
  exact ⟨rett rfl rfl, by (repeat' (first | with_reducible exact Ext.refl _ | with_reducible refine Ext.ext ?_ _ | with_reducible refine Ext.alloc ?_ _ | with_reducible refine Ext.drew ?_ | with_reducible refine Ext.drewN ?_ _ | with_reducible assumption))⟩
theorem hopLeave_yes (d : Int) (w : World) (h : 2 ≤ d) (h2 : d ≤ 9223372036854775807) :
    Calls Try.prog 41 #[.int .i64 d] w fun r' w' => r' = .returned (.tuple #[hv (madeR ⟨d, d - 1, 0, 0, 0, 0, 0, 0, 0, 0, 0⟩).1, .bool (madeR ⟨d, d - 1, 0, 0, 0, 0, 0, 0, 0, 0, 0⟩).2]) ∧ Ext w w' := by
  go_enter Try.func41, Try.ntmps41
  go_wp2_with (go_at_call 52; refine (made_any _ _ _ _ _ _ _ _ _ _ _ _).mono ?_; rintro r w' ⟨rfl, y, rfl⟩)
  go_returns
  exact ⟨rett rfl rfl, by (repeat' (first | with_reducible exact Ext.refl _ | with_reducible refine Ext.ext ?_ _ | with_reducible refine Ext.alloc ?_ _ | with_reducible refine Ext.drew ?_ | with_reducible refine Ext.drewN ?_ _ | with_reducible assumption))⟩
theorem hopNext_no (d : Int) (w : World) (h : hopB ⟨d, d, 0, 0, 0, 0, 0, 0, 0, 0, 0⟩ = false) :
    Calls Try.prog 42 #[.int .i64 d] w fun r' w' => r' = .returned (.tuple #[hv hz, .bool false]) ∧ Ext w w' := by
  have H := Lib.hid h
  clear h
  go_enter Try.func42, Try.ntmps42
  go_wp2_with (go_at_call 35; refine (hopRight_any _ _ _ _ _ _ _ _ _ _ _ _).mono ?_; rw [H.out]; rintro r w' ⟨rfl, y, rfl⟩)
  go_returns
  exact ⟨rett rfl rfl, by (repeat' (first | with_reducible exact Ext.refl _ | with_reducible refine Ext.ext ?_ _ | with_reducible refine Ext.alloc ?_ _ | with_reducible refine Ext.drew ?_ | with_reducible refine Ext.drewN ?_ _ | with_reducible assumption))⟩
def nextH (d : Int) : Hp := ⟨d, d, 0, if d = 1 then 1 else 0, if d = 2 then 1 else 0, if d = 3 then 1 else 0, if d = 4 then 1 else 0, 0, 0, 0, 0⟩
theorem hopNext_yes (d : Int) (w : World) (h : d = 1 ∨ d = 2 ∨ d = 3 ∨ d = 4) :
    Calls Try.prog 42 #[.int .i64 d] w fun r' w' => r' = .returned (.tuple #[hv (nextH d), .bool true]) ∧ Ext w w' := by
  rcases h with rfl | rfl | rfl | rfl
  all_goals
    go_enter Try.func42, Try.ntmps42
    go_wp2_with (go_at_call 35; refine (hopRight_any _ _ _ _ _ _ _ _ _ _ _ _).mono ?_; rw [show hopB _ = true by decide]; rintro r w' ⟨rfl, y, rfl⟩)
    go_returns
    exact ⟨rett rfl rfl, by (repeat' (first | with_reducible exact Ext.refl _ | with_reducible refine Ext.ext ?_ _ | with_reducible refine Ext.alloc ?_ _ | with_reducible refine Ext.drew ?_ | with_reducible refine Ext.drewN ?_ _ | with_reducible assumption))⟩
end Go.Proofs.Ytfdgeomomafnbaa

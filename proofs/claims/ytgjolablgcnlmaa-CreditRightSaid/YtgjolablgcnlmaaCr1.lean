/- Credit: lanes, Right, may, copied. -/
import Derived.Test.YtgjolablgcnlmaaClone64
import Derived.Deep.RegionHeld3
import Derived.Deep.RegionLaw
namespace Go.Proofs.Ytgjolablgcnlmaa
set_option linter.unusedSimpArgs false
set_option linter.unusedVariables false
open Go.RowKit

/-- A lane's numbers. -/
structure Ln where
  s : Int
  m : Int
  b : Int
  way : List Int
  waits : List Int
/-- How a lane lies. -/
def lv (s m b : Int) (wv tv : Value) : Value := .agg #[.int .i64 s, .int .i64 m, wv, tv, .int .i64 b]

def rightL (s m b : Int) (p q : Nat) : Bool := decide (1 ≤ s ∧ s ≤ 4096 ∧ 0 ≤ m ∧ m ≤ s ∧ 0 ≤ b ∧ b ≤ s ∧ m + b + p + q = s)

set_option maxHeartbeats 1000000 in
theorem crRight_any (s m b : Int) (a1 a2 : Option Addr) (p q c1 c2 : Nat) (w : World) (hp : p ≤ 1073741824) (hq : q ≤ 1073741824) :
    Calls Try.prog 12 #[.agg #[.int .i64 s, .int .i64 m, .slice a1 p c1, .slice a2 q c2, .int .i64 b]] w fun e w' => e = .returned (.bool (rightL s m b p q)) ∧ Ext w w' := by
  by_cases h1 : 1 ≤ s
  · by_cases h2 : s ≤ 4096
    · by_cases h3 : 0 ≤ m
      · by_cases h4 : m ≤ s
        · by_cases h5 : 0 ≤ b
          · by_cases h6 : b ≤ s
            · have hr : rightL s m b p q = decide (m + b + p + q = s) := by simp [rightL, h1, h2, h3, h4, h5, h6]
              have HR := Lib.hid hr
              clear hr
              go_enter Try.func12, Try.ntmps12
              go_wp2
              go_ret
              exact ⟨by rw [HR.out]; rfl, by (repeat' (first | with_reducible exact Ext.refl _ | with_reducible refine Ext.ext ?_ _ | with_reducible refine Ext.alloc ?_ _ | with_reducible refine Ext.drew ?_ | with_reducible refine Ext.drewN ?_ _ | with_reducible assumption))⟩
            · go_enter Try.func12, Try.ntmps12
              go_wp2
              go_ret
              exact ⟨by simp [rightL]; omega, by (repeat' (first | with_reducible exact Ext.refl _ | with_reducible refine Ext.ext ?_ _ | with_reducible refine Ext.alloc ?_ _ | with_reducible refine Ext.drew ?_ | with_reducible refine Ext.drewN ?_ _ | with_reducible assumption))⟩
          · go_enter Try.func12, Try.ntmps12
            go_wp2
            go_ret
            exact ⟨by simp [rightL]; omega, by (repeat' (first | with_reducible exact Ext.refl _ | with_reducible refine Ext.ext ?_ _ | with_reducible refine Ext.alloc ?_ _ | with_reducible refine Ext.drew ?_ | with_reducible refine Ext.drewN ?_ _ | with_reducible assumption))⟩
        · go_enter Try.func12, Try.ntmps12
          go_wp2
          go_ret
          exact ⟨by simp [rightL]; omega, by (repeat' (first | with_reducible exact Ext.refl _ | with_reducible refine Ext.ext ?_ _ | with_reducible refine Ext.alloc ?_ _ | with_reducible refine Ext.drew ?_ | with_reducible refine Ext.drewN ?_ _ | with_reducible assumption))⟩
      · go_enter Try.func12, Try.ntmps12
        go_wp2
        go_ret
        exact ⟨by simp [rightL]; omega, by (repeat' (first | with_reducible exact Ext.refl _ | with_reducible refine Ext.ext ?_ _ | with_reducible refine Ext.alloc ?_ _ | with_reducible refine Ext.drew ?_ | with_reducible refine Ext.drewN ?_ _ | with_reducible assumption))⟩
    · go_enter Try.func12, Try.ntmps12
      go_wp2
      go_ret
      exact ⟨by simp [rightL]; omega, by (repeat' (first | with_reducible exact Ext.refl _ | with_reducible refine Ext.ext ?_ _ | with_reducible refine Ext.alloc ?_ _ | with_reducible refine Ext.drew ?_ | with_reducible refine Ext.drewN ?_ _ | with_reducible assumption))⟩
  · go_enter Try.func12, Try.ntmps12
    go_wp2
    go_ret
    exact ⟨by simp [rightL]; omega, by (repeat' (first | with_reducible exact Ext.refl _ | with_reducible refine Ext.ext ?_ _ | with_reducible refine Ext.alloc ?_ _ | with_reducible refine Ext.drew ?_ | with_reducible refine Ext.drewN ?_ _ | with_reducible assumption))⟩

/-- What 'may' answers. -/
def mayL (r : Bool) (n none : Int) : Int := if r = true then (if n < 1 then none else 0) else 10
theorem crMay_any (s m b : Int) (a1 a2 : Option Addr) (p q c1 c2 : Nat) (n none' : Int) (w : World) (hp : p ≤ 1073741824) (hq : q ≤ 1073741824) :
    Calls Try.prog 26 #[.agg #[.int .i64 s, .int .i64 m, .slice a1 p c1, .slice a2 q c2, .int .i64 b], .int .i64 n, .int .i64 none'] w fun e w' => e = .returned (.int .i64 (mayL (rightL s m b p q) n none')) ∧ Ext w w' := by
  have HP := Lib.hid hp
  have HQ := Lib.hid hq
  clear hp hq
  by_cases hr : rightL s m b p q = true
  · by_cases hn : n < 1
    · have HV := Lib.hid (show mayL (rightL s m b p q) n none' = none' by simp [mayL, hr, hn])
      go_enter Try.func26, Try.ntmps26
      go_wp2_with (go_at_call 12; refine (crRight_any _ _ _ _ _ _ _ _ _ _ HP.out HQ.out).mono ?_; rintro e w' ⟨rfl, x, rfl⟩)
      go_ret
      exact ⟨by rw [HV.out]; rfl, by (repeat' (first | with_reducible exact Ext.refl _ | with_reducible refine Ext.ext ?_ _ | with_reducible refine Ext.alloc ?_ _ | with_reducible refine Ext.drew ?_ | with_reducible refine Ext.drewN ?_ _ | with_reducible assumption))⟩
    · have HV := Lib.hid (show mayL (rightL s m b p q) n none' = 0 by simp [mayL, hr, hn])
      go_enter Try.func26, Try.ntmps26
      go_wp2_with (go_at_call 12; refine (crRight_any _ _ _ _ _ _ _ _ _ _ HP.out HQ.out).mono ?_; rintro e w' ⟨rfl, x, rfl⟩)
      go_ret
      exact ⟨by rw [HV.out]; rfl, by (repeat' (first | with_reducible exact Ext.refl _ | with_reducible refine Ext.ext ?_ _ | with_reducible refine Ext.alloc ?_ _ | with_reducible refine Ext.drew ?_ | with_reducible refine Ext.drewN ?_ _ | with_reducible assumption))⟩
  · have hr' : rightL s m b p q = false := by simpa using hr
    clear hr
    have HV := Lib.hid (show mayL (rightL s m b p q) n none' = 10 by simp [mayL, hr'])
    go_enter Try.func26, Try.ntmps26
    go_wp2_with (go_at_call 12; refine (crRight_any _ _ _ _ _ _ _ _ _ _ HP.out HQ.out).mono ?_; rintro e w' ⟨rfl, x, rfl⟩)
    go_ret
    exact ⟨by rw [HV.out]; rfl, by (repeat' (first | with_reducible exact Ext.refl _ | with_reducible refine Ext.ext ?_ _ | with_reducible refine Ext.alloc ?_ _ | with_reducible refine Ext.drew ?_ | with_reducible refine Ext.drewN ?_ _ | with_reducible assumption))⟩

set_option maxHeartbeats 1000000 in
theorem crNew_any (n : Int) (w : World) :
    Calls Try.prog 9 #[.int .i64 n] w fun e w' => (e = .returned (.tuple #[.agg #[.int .i64 (if 1 ≤ n ∧ n ≤ 4096 then n else 0), .int .i64 (if 1 ≤ n ∧ n ≤ 4096 then n else 0), .slice none 0 0, .slice none 0 0, .int .i64 0], .int .i64 (if 1 ≤ n ∧ n ≤ 4096 then 0 else 1)])) ∧ Ext w w' := by
  by_cases h1 : 1 ≤ n
  · by_cases h2 : n ≤ 4096
    · simp only [h1, h2, and_self, if_true]
      go_enter Try.func9, Try.ntmps9
      go_wp2
      go_returns
      exact ⟨rfl, by (repeat' (first | with_reducible exact Ext.refl _ | with_reducible refine Ext.ext ?_ _ | with_reducible refine Ext.alloc ?_ _ | with_reducible refine Ext.drew ?_ | with_reducible refine Ext.drewN ?_ _ | with_reducible assumption))⟩
    · have h3 : ¬ (1 ≤ n ∧ n ≤ 4096) := by omega
      simp only [h3, if_false]
      go_enter Try.func9, Try.ntmps9
      go_wp2
      go_returns
      exact ⟨rfl, by (repeat' (first | with_reducible exact Ext.refl _ | with_reducible refine Ext.ext ?_ _ | with_reducible refine Ext.alloc ?_ _ | with_reducible refine Ext.drew ?_ | with_reducible refine Ext.drewN ?_ _ | with_reducible assumption))⟩
  · have h3 : ¬ (1 ≤ n ∧ n ≤ 4096) := by omega
    simp only [h3, if_false]
    go_enter Try.func9, Try.ntmps9
    go_wp2
    go_returns
    exact ⟨rfl, by (repeat' (first | with_reducible exact Ext.refl _ | with_reducible refine Ext.ext ?_ _ | with_reducible refine Ext.alloc ?_ _ | with_reducible refine Ext.drew ?_ | with_reducible refine Ext.drewN ?_ _ | with_reducible assumption))⟩
end Go.Proofs.Ytgjolablgcnlmaa

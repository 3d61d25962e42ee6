/- Contracts of ts.Enter, ts.Leave and ts.Next. -/
import Derived.Test.YtfdgeomomafnbaaTs4
namespace Go.Proofs.Ytfdgeomomafnbaa
set_option linter.unusedSimpArgs false
set_option linter.unusedVariables false
open Go.RowKit

def enterOk (t : Tm) : Bool := rightB t && decide (t.d < 4)
def leaveOk (t : Tm) : Bool := rightB t && decide (1 < t.d)
def nextOk (t : Tm) : Bool := rightB t && decide (t.at (t.d - 1) < gr (t.d - 1))
def enterT (t : Tm) : Tm := { t with d := t.d + 1 }
theorem rightB_iff (t : Tm) : rightB t = true ↔ 1 ≤ t.d ∧ t.d ≤ 4 ∧ 0 ≤ t.a ∧ 0 ≤ t.b ∧ 0 ≤ t.c ∧ 0 ≤ t.e ∧ t.a ≤ 1048576 ∧ t.b ≤ 64 ∧ t.c ≤ 64 ∧ t.e ≤ 64 ∧
    (1 < t.d ∨ t.b = 0) ∧ (2 < t.d ∨ t.c = 0) ∧ (3 < t.d ∨ t.e = 0) := by
  simp [rightB, okTo, okAt, cAt, gr]
  omega
theorem at_0 (t : Tm) : t.at 0 = t.a := rfl
theorem at_1 (t : Tm) : t.at 1 = t.b := rfl
theorem at_2 (t : Tm) : t.at 2 = t.c := rfl
theorem at_3 (t : Tm) : t.at 3 = t.e := rfl

/-- One coordinate written. -/
def Tm.set (t : Tm) (k v : Int) : Tm := ⟨t.d, if k = 0 then v else t.a, if k = 1 then v else t.b, if k = 2 then v else t.c, if k = 3 then v else t.e⟩
def leaveT (t : Tm) : Tm := { t.set (t.d - 1) 0 with d := t.d - 1 }
def nextT (t : Tm) : Tm := t.set (t.d - 1) (t.at (t.d - 1) + 1)

theorem enter_no (d a b c e : Int) (w : World) (h : enterOk ⟨d, a, b, c, e⟩ = false) :
    Calls Try.prog 17 #[.agg #[.int .i64 d, .int .i64 a, .int .i64 b, .int .i64 c, .int .i64 e]] w fun r w' => r = .returned (.tuple #[tv tz, .bool false]) ∧ Ext w w' := by
  cases h1 : rightB ⟨d, a, b, c, e⟩
  · go_enter Try.func17, Try.ntmps17
    go_wp2_with (go_at_call 25; refine (right_any _ _ _ _ _ _).mono ?_; rintro r w' ⟨rfl, x, rfl⟩)
    go_returns
    exact ⟨rett rfl rfl, by (repeat' (first | with_reducible exact Ext.refl _ | with_reducible refine Ext.ext ?_ _ | with_reducible refine Ext.alloc ?_ _ | with_reducible refine Ext.drew ?_ | with_reducible refine Ext.drewN ?_ _ | with_reducible assumption))⟩
  · have hd := rightB_d h1
    simp only [enterOk, h1, Bool.true_and, decide_eq_false_iff_not] at h
    obtain rfl : d = 4 := by simp only at hd; omega
    clear h hd
    go_enter Try.func17, Try.ntmps17
    go_wp2_with (go_at_call 25; refine (right_any _ _ _ _ _ _).mono ?_; rintro r w' ⟨rfl, x, rfl⟩)
    go_returns
    exact ⟨rett rfl rfl, by (repeat' (first | with_reducible exact Ext.refl _ | with_reducible refine Ext.ext ?_ _ | with_reducible refine Ext.alloc ?_ _ | with_reducible refine Ext.drew ?_ | with_reducible refine Ext.drewN ?_ _ | with_reducible assumption))⟩

theorem enter_yes (d a b c e : Int) (w : World) (h : enterOk ⟨d, a, b, c, e⟩ = true) :
    Calls Try.prog 17 #[.agg #[.int .i64 d, .int .i64 a, .int .i64 b, .int .i64 c, .int .i64 e]] w fun r w' => r = .returned (.tuple #[tv (enterT ⟨d, a, b, c, e⟩), .bool true]) ∧ Ext w w' := by
  simp only [enterOk, Bool.and_eq_true, decide_eq_true_eq] at h
  obtain ⟨h1, h2⟩ := h
  obtain ⟨p1, p2⟩ : 1 ≤ d ∧ d ≤ 4 := rightB_d h1
  have hn : (d == 4) = false := by simp; omega
  go_enter Try.func17, Try.ntmps17
  go_wp2_with (go_at_call 25; refine (right_any _ _ _ _ _ _).mono ?_; rintro r w' ⟨rfl, x, rfl⟩)
  go_returns
  exact ⟨rett rfl rfl, by (repeat' (first | with_reducible exact Ext.refl _ | with_reducible refine Ext.ext ?_ _ | with_reducible refine Ext.alloc ?_ _ | with_reducible refine Ext.drew ?_ | with_reducible refine Ext.drewN ?_ _ | with_reducible assumption))⟩

theorem leave_no (d a b c e : Int) (w : World) (h : leaveOk ⟨d, a, b, c, e⟩ = false) :
    Calls Try.prog 19 #[.agg #[.int .i64 d, .int .i64 a, .int .i64 b, .int .i64 c, .int .i64 e]] w fun r w' => r = .returned (.tuple #[tv tz, .bool false]) ∧ Ext w w' := by
  cases h1 : rightB ⟨d, a, b, c, e⟩
  · go_enter Try.func19, Try.ntmps19
    go_wp2_with (go_at_call 25; refine (right_any _ _ _ _ _ _).mono ?_; rintro r w' ⟨rfl, x, rfl⟩)
    go_returns
    exact ⟨rett rfl rfl, by (repeat' (first | with_reducible exact Ext.refl _ | with_reducible refine Ext.ext ?_ _ | with_reducible refine Ext.alloc ?_ _ | with_reducible refine Ext.drew ?_ | with_reducible refine Ext.drewN ?_ _ | with_reducible assumption))⟩
  · have hd := rightB_d h1
    simp only [leaveOk, h1, Bool.true_and, decide_eq_false_iff_not] at h
    obtain rfl : d = 1 := by simp only at hd; omega
    clear h hd
    go_enter Try.func19, Try.ntmps19
    go_wp2_with (go_at_call 25; refine (right_any _ _ _ _ _ _).mono ?_; rintro r w' ⟨rfl, x, rfl⟩)
    go_returns
    exact ⟨rett rfl rfl, by (repeat' (first | with_reducible exact Ext.refl _ | with_reducible refine Ext.ext ?_ _ | with_reducible refine Ext.alloc ?_ _ | with_reducible refine Ext.drew ?_ | with_reducible refine Ext.drewN ?_ _ | with_reducible assumption))⟩

theorem leave_yes (d a b c e : Int) (w : World) (h : leaveOk ⟨d, a, b, c, e⟩ = true) :
    Calls Try.prog 19 #[.agg #[.int .i64 d, .int .i64 a, .int .i64 b, .int .i64 c, .int .i64 e]] w fun r w' => r = .returned (.tuple #[tv (leaveT ⟨d, a, b, c, e⟩), .bool true]) ∧ Ext w w' := by
  simp only [leaveOk, Bool.and_eq_true, decide_eq_true_eq] at h
  obtain ⟨h1, h2⟩ := h
  obtain ⟨p1, p2⟩ : 1 ≤ d ∧ d ≤ 4 := rightB_d h1
  obtain rfl | rfl | rfl : d = 2 ∨ d = 3 ∨ d = 4 := by omega
  all_goals
    clear h2 p1 p2
    go_enter Try.func19, Try.ntmps19
    go_wp2_with (go_at_call 25; refine (right_any _ _ _ _ _ _).mono ?_; rintro r w' ⟨rfl, x, rfl⟩)
    go_returns
    exact ⟨rett rfl (by simp [leaveT, Tm.set, tv]), by (repeat' (first | with_reducible exact Ext.refl _ | with_reducible refine Ext.ext ?_ _ | with_reducible refine Ext.alloc ?_ _ | with_reducible refine Ext.drew ?_ | with_reducible refine Ext.drewN ?_ _ | with_reducible assumption))⟩

theorem right_eq (d a b c e : Int) (w : World) (v : Bool) (h : rightB ⟨d, a, b, c, e⟩ = v) :
    Calls Try.prog 25 #[.agg #[.int .i64 d, .int .i64 a, .int .i64 b, .int .i64 c, .int .i64 e]] w fun r w' => r = .returned (.bool v) ∧ Ext w w' := by
  subst h
  exact right_any d a b c e w
theorem greatest_eq (n v : Int) (w : World) (h : gr n = v) : Calls Try.prog 46 #[.int .i64 n] w fun e w' => e = .returned (.int .i64 v) ∧ Ext w w' := by
  subst h
  exact (greatest_any n w).mono fun _ _ ⟨he, hw⟩ => ⟨he, hw ▸ Ext.refl w⟩

theorem next_no (d a b c e : Int) (w : World) (h : nextOk ⟨d, a, b, c, e⟩ = false) :
    Calls Try.prog 20 #[.agg #[.int .i64 d, .int .i64 a, .int .i64 b, .int .i64 c, .int .i64 e]] w fun r w' => r = .returned (.tuple #[tv tz, .bool false]) ∧ Ext w w' := by
  cases h1 : rightB ⟨d, a, b, c, e⟩
  · have H1 := Lib.hid h1
    clear h h1
    go_enter Try.func20, Try.ntmps20
    go_wp2
    refine wp_region_ext (by kernel_rfl) (by kernel_rfl) ?_
    repeat (go_big_quiet_step ((go_at_call 25; exact quiet_ext (right_eq _ _ _ _ _ _ _ H1.out))))
    refine wpQuiet_nil ?_
    intro xK
    go_wp2
    go_returns
    exact ⟨rett rfl rfl, by (repeat' (first | with_reducible exact Ext.refl _ | with_reducible refine Ext.ext ?_ _ | with_reducible refine Ext.alloc ?_ _ | with_reducible refine Ext.drew ?_ | with_reducible refine Ext.drewN ?_ _ | with_reducible assumption))⟩
  · have hd := rightB_d h1
    have hr := (rightB_iff _).1 h1
    have H1 := Lib.hid h1
    simp only [nextOk, h1, Bool.true_and, decide_eq_false_iff_not] at h
    clear h1
    simp only at hd hr
    obtain rfl | rfl | rfl | rfl : d = 1 ∨ d = 2 ∨ d = 3 ∨ d = 4 := by omega
    all_goals
      simp [Tm.at, cAt, gr] at h
    · obtain rfl : a = 1048576 := by omega
      clear h hd hr
      go_enter Try.func20, Try.ntmps20
      go_wp2
      refine wp_region_ext (by kernel_rfl) (by kernel_rfl) ?_
      repeat (go_big_quiet_step (first | (go_at_call 25; exact quiet_ext (right_eq _ _ _ _ _ _ _ H1.out)) | (go_at_call 46; exact quiet_ext (greatest_eq _ 1048576 _ rfl))))
      refine wpQuiet_nil ?_
      intro xK
      go_wp2
      go_returns
      exact ⟨rett rfl rfl, by (repeat' (first | with_reducible exact Ext.refl _ | with_reducible refine Ext.ext ?_ _ | with_reducible refine Ext.alloc ?_ _ | with_reducible refine Ext.drew ?_ | with_reducible refine Ext.drewN ?_ _ | with_reducible assumption))⟩
    · obtain rfl : b = 64 := by omega
      clear h hd hr
      go_enter Try.func20, Try.ntmps20
      go_wp2
      refine wp_region_ext (by kernel_rfl) (by kernel_rfl) ?_
      repeat (go_big_quiet_step (first | (go_at_call 25; exact quiet_ext (right_eq _ _ _ _ _ _ _ H1.out)) | (go_at_call 46; exact quiet_ext (greatest_eq _ 64 _ rfl))))
      refine wpQuiet_nil ?_
      intro xK
      go_wp2
      go_returns
      exact ⟨rett rfl rfl, by (repeat' (first | with_reducible exact Ext.refl _ | with_reducible refine Ext.ext ?_ _ | with_reducible refine Ext.alloc ?_ _ | with_reducible refine Ext.drew ?_ | with_reducible refine Ext.drewN ?_ _ | with_reducible assumption))⟩
    · obtain rfl : c = 64 := by omega
      clear h hd hr
      go_enter Try.func20, Try.ntmps20
      go_wp2
      refine wp_region_ext (by kernel_rfl) (by kernel_rfl) ?_
      repeat (go_big_quiet_step (first | (go_at_call 25; exact quiet_ext (right_eq _ _ _ _ _ _ _ H1.out)) | (go_at_call 46; exact quiet_ext (greatest_eq _ 64 _ rfl))))
      refine wpQuiet_nil ?_
      intro xK
      go_wp2
      go_returns
      exact ⟨rett rfl rfl, by (repeat' (first | with_reducible exact Ext.refl _ | with_reducible refine Ext.ext ?_ _ | with_reducible refine Ext.alloc ?_ _ | with_reducible refine Ext.drew ?_ | with_reducible refine Ext.drewN ?_ _ | with_reducible assumption))⟩
    · obtain rfl : e = 64 := by omega
      clear h hd hr
      go_enter Try.func20, Try.ntmps20
      go_wp2
      refine wp_region_ext (by kernel_rfl) (by kernel_rfl) ?_
      repeat (go_big_quiet_step (first | (go_at_call 25; exact quiet_ext (right_eq _ _ _ _ _ _ _ H1.out)) | (go_at_call 46; exact quiet_ext (greatest_eq _ 64 _ rfl))))
      refine wpQuiet_nil ?_
      intro xK
      go_wp2
      go_returns
      exact ⟨rett rfl rfl, by (repeat' (first | with_reducible exact Ext.refl _ | with_reducible refine Ext.ext ?_ _ | with_reducible refine Ext.alloc ?_ _ | with_reducible refine Ext.drew ?_ | with_reducible refine Ext.drewN ?_ _ | with_reducible assumption))⟩

theorem next_yes (d a b c e : Int) (w : World) (h : nextOk ⟨d, a, b, c, e⟩ = true) :
    Calls Try.prog 20 #[.agg #[.int .i64 d, .int .i64 a, .int .i64 b, .int .i64 c, .int .i64 e]] w fun r w' => r = .returned (.tuple #[tv (nextT ⟨d, a, b, c, e⟩), .bool true]) ∧ Ext w w' := by
  simp only [nextOk, Bool.and_eq_true, decide_eq_true_eq] at h
  obtain ⟨h1, h⟩ := h
  have hr := (rightB_iff _).1 h1
  have H1 := Lib.hid h1
  clear h1
  simp only at hr
  obtain rfl | rfl | rfl | rfl : d = 1 ∨ d = 2 ∨ d = 3 ∨ d = 4 := by omega
  all_goals
    simp [Tm.at, cAt, gr] at h
  · obtain ⟨q0, q1⟩ : 0 ≤ a ∧ a < 1048576 := by omega
    have hb : (a == 1048576) = false := by simp; omega
    clear h hr
    go_enter Try.func20, Try.ntmps20
    go_wp2
    refine wp_region_ext (by kernel_rfl) (by kernel_rfl) ?_
    repeat (go_big_quiet_step (first | (go_at_call 25; exact quiet_ext (right_eq _ _ _ _ _ _ _ H1.out)) | (go_at_call 46; exact quiet_ext (greatest_eq _ 1048576 _ rfl))))
    refine wpQuiet_nil ?_
    intro xK
    go_wp2
    go_returns
    exact ⟨rett rfl (by simp [nextT, Tm.set, tv, Tm.at, cAt]), by (repeat' (first | with_reducible exact Ext.refl _ | with_reducible refine Ext.ext ?_ _ | with_reducible refine Ext.alloc ?_ _ | with_reducible refine Ext.drew ?_ | with_reducible refine Ext.drewN ?_ _ | with_reducible assumption))⟩
  · obtain ⟨q0, q1⟩ : 0 ≤ b ∧ b < 64 := by omega
    have hb : (b == 64) = false := by simp; omega
    clear h hr
    go_enter Try.func20, Try.ntmps20
    go_wp2
    refine wp_region_ext (by kernel_rfl) (by kernel_rfl) ?_
    repeat (go_big_quiet_step (first | (go_at_call 25; exact quiet_ext (right_eq _ _ _ _ _ _ _ H1.out)) | (go_at_call 46; exact quiet_ext (greatest_eq _ 64 _ rfl))))
    refine wpQuiet_nil ?_
    intro xK
    go_wp2
    go_returns
    exact ⟨rett rfl (by simp [nextT, Tm.set, tv, Tm.at, cAt]), by (repeat' (first | with_reducible exact Ext.refl _ | with_reducible refine Ext.ext ?_ _ | with_reducible refine Ext.alloc ?_ _ | with_reducible refine Ext.drew ?_ | with_reducible refine Ext.drewN ?_ _ | with_reducible assumption))⟩
  · obtain ⟨q0, q1⟩ : 0 ≤ c ∧ c < 64 := by omega
    have hb : (c == 64) = false := by simp; omega
    clear h hr
    go_enter Try.func20, Try.ntmps20
    go_wp2
    refine wp_region_ext (by kernel_rfl) (by kernel_rfl) ?_
    repeat (go_big_quiet_step (first | (go_at_call 25; exact quiet_ext (right_eq _ _ _ _ _ _ _ H1.out)) | (go_at_call 46; exact quiet_ext (greatest_eq _ 64 _ rfl))))
    refine wpQuiet_nil ?_
    intro xK
    go_wp2
    go_returns
    exact ⟨rett rfl (by simp [nextT, Tm.set, tv, Tm.at, cAt]), by (repeat' (first | with_reducible exact Ext.refl _ | with_reducible refine Ext.ext ?_ _ | with_reducible refine Ext.alloc ?_ _ | with_reducible refine Ext.drew ?_ | with_reducible refine Ext.drewN ?_ _ | with_reducible assumption))⟩
  · obtain ⟨q0, q1⟩ : 0 ≤ e ∧ e < 64 := by omega
    have hb : (e == 64) = false := by simp; omega
    clear h hr
    go_enter Try.func20, Try.ntmps20
    go_wp2
    refine wp_region_ext (by kernel_rfl) (by kernel_rfl) ?_
    repeat (go_big_quiet_step (first | (go_at_call 25; exact quiet_ext (right_eq _ _ _ _ _ _ _ H1.out)) | (go_at_call 46; exact quiet_ext (greatest_eq _ 64 _ rfl))))
    refine wpQuiet_nil ?_
    intro xK
    go_wp2
    go_returns
    exact ⟨rett rfl (by simp [nextT, Tm.set, tv, Tm.at, cAt]), by (repeat' (first | with_reducible exact Ext.refl _ | with_reducible refine Ext.ext ?_ _ | with_reducible refine Ext.alloc ?_ _ | with_reducible refine Ext.drew ?_ | with_reducible refine Ext.drewN ?_ _ | with_reducible assumption))⟩
end Go.Proofs.Ytfdgeomomafnbaa

/- Prog: times, truth, two: what two numbers make. -/
import Derived.Test.YtddckdlkopohhaaRows
import Derived.Test.YtddckdlkopohhaaMem
import Derived.Test.YtddckdlkopohhaaQuiet
import Derived.Shelf.Bits.Mul64
namespace Go.Proofs.Ytddckdlkopohhaa
set_option linter.unusedSimpArgs false
set_option linter.unusedVariables false
open Go.RowKit Go.Shelf

def renM : Go.Shelf.Ren := ⟨fun _ => 27, fun n => if n = 46 then 56 else 52, fun n => n⟩
theorem laysM : Lays.n264 Try.prog renM where
  mixed := by kernel_rfl
  f264 := by kernel_rfl
  t46 := by kernel_rfl
  a46 := fun w => by rfl
  z46 := fun w => by rfl
  v46 := fun w => by rfl
  t53 := by kernel_rfl
  a53 := fun w => by rfl
  z53 := fun w => by rfl
  v53 := fun w => by rfl
theorem mul64_any (x y : Nat) (hx : x < 18446744073709551616) (hy : y < 18446744073709551616) (w : World) :
    Calls Try.prog 27 #[.int .u64 x, .int .u64 y] w fun e w' => e = .returned (.tuple #[.int .u64 ((x * y / 18446744073709551616 : Nat) : Int), .int .u64 ((x * y % 18446744073709551616 : Nat) : Int)]) ∧ w' = w :=
  Any.bits_Mul64 laysM x y hx hy w

/-- Has a number room in 64 bits? -/
def In64 (n : Int) : Prop := -9223372036854775808 ≤ n ∧ n ≤ 9223372036854775807
instance (n : Int) : Decidable (In64 n) := by unfold In64; infer_instance
theorem size_any (n : Int) (h : In64 n) (w : World) : Calls Try.prog 26 #[.int .i64 n] w fun e w' => e = .returned (.int .u64 (n.natAbs : Int)) ∧ Ext w w' := by
  obtain ⟨h1, h2⟩ := h
  by_cases h0 : n < 0
  · go_enter Try.func26, Try.ntmps26
    go_wp2
    go_returns
    exact ⟨reti rfl (by rw [IntKind.wrap_u64, IntKind.wrap_u64]; omega), by (repeat' (first | with_reducible exact Ext.refl _ | with_reducible refine Ext.ext ?_ _ | with_reducible refine Ext.alloc ?_ _ | with_reducible refine Ext.drew ?_ | with_reducible refine Ext.drewN ?_ _ | with_reducible assumption))⟩
  · go_enter Try.func26, Try.ntmps26
    go_wp2
    go_returns
    exact ⟨reti rfl (by omega), by (repeat' (first | with_reducible exact Ext.refl _ | with_reducible refine Ext.ext ?_ _ | with_reducible refine Ext.alloc ?_ _ | with_reducible refine Ext.drew ?_ | with_reducible refine Ext.drewN ?_ _ | with_reducible assumption))⟩
theorem truth_any (b : Bool) (w : World) : Calls Try.prog 25 #[.bool b] w fun e w' => e = .returned (.int .i64 (if b then 1 else 0)) ∧ Ext w w' := by
  cases b
  · go_enter Try.func25, Try.ntmps25
    go_wp2
    go_returns
    exact ⟨reti rfl (by rfl), by (repeat' (first | with_reducible exact Ext.refl _ | with_reducible refine Ext.ext ?_ _ | with_reducible refine Ext.alloc ?_ _ | with_reducible refine Ext.drew ?_ | with_reducible refine Ext.drewN ?_ _ | with_reducible assumption))⟩
  · go_enter Try.func25, Try.ntmps25
    go_wp2
    go_returns
    exact ⟨reti rfl (by rfl), by (repeat' (first | with_reducible exact Ext.refl _ | with_reducible refine Ext.ext ?_ _ | with_reducible refine Ext.alloc ?_ _ | with_reducible refine Ext.drew ?_ | with_reducible refine Ext.drewN ?_ _ | with_reducible assumption))⟩
theorem mul_opp {a b : Int} (h : (decide (a < 0) != decide (b < 0)) = true) : a * b = -((a.natAbs * b.natAbs : Nat) : Int) := by
  rw [Int.natCast_mul]
  by_cases ha : a < 0
  · have hb : ¬ b < 0 := by intro hb; simp [ha, hb] at h
    rw [show ((a.natAbs : Nat) : Int) = -a by omega, show ((b.natAbs : Nat) : Int) = b by omega, Int.neg_mul, Int.neg_neg]
  · have hb : b < 0 := by
      by_cases hb : b < 0
      · exact hb
      · simp [ha, hb] at h
    rw [show ((a.natAbs : Nat) : Int) = a by omega, show ((b.natAbs : Nat) : Int) = -b by omega, Int.mul_neg, Int.neg_neg]
theorem mul_same {a b : Int} (h : (decide (a < 0) != decide (b < 0)) = false) : a * b = ((a.natAbs * b.natAbs : Nat) : Int) := by
  rw [Int.natCast_mul]
  by_cases ha : a < 0
  · have hb : b < 0 := by
      by_cases hb : b < 0
      · exact hb
      · simp [ha, hb] at h
    rw [show ((a.natAbs : Nat) : Int) = -a by omega, show ((b.natAbs : Nat) : Int) = -b by omega, Int.neg_mul, Int.mul_neg, Int.neg_neg]
  · have hb : ¬ b < 0 := by intro hb; simp [ha, hb] at h
    rw [show ((a.natAbs : Nat) : Int) = a by omega, show ((b.natAbs : Nat) : Int) = b by omega]
theorem mul64_parts (x y : Nat) (hx : x < 18446744073709551616) (hy : y < 18446744073709551616) : ∃ hi lo : Int, ((x * y : Nat) : Int) = hi * 18446744073709551616 + lo ∧ 0 ≤ hi ∧ 0 ≤ lo ∧ lo < 18446744073709551616 ∧
    ∀ w, Calls Try.prog 27 #[.int .u64 x, .int .u64 y] w fun e w' => e = .returned (.tuple #[.int .u64 hi, .int .u64 lo]) ∧ w' = w :=
  ⟨_, _, by omega, by omega, by omega, by omega, fun w => mul64_any x y hx hy w⟩
set_option maxHeartbeats 1000000 in
theorem times_core (a b hi lo : Int) (X Y : Nat) (S1 : Hid (∀ w, Calls Try.prog 26 #[.int .i64 a] w fun e w' => e = .returned (.int .u64 (X : Int)) ∧ Ext w w')) (S2 : Hid (∀ w, Calls Try.prog 26 #[.int .i64 b] w fun e w' => e = .returned (.int .u64 (Y : Int)) ∧ Ext w w'))
    (M : Hid (∀ w, Calls Try.prog 27 #[.int .u64 X, .int .u64 Y] w fun e w' => e = .returned (.tuple #[.int .u64 hi, .int .u64 lo]) ∧ w' = w)) (sa sb : Bool) (ha : decide (a < 0) = sa) (hb : decide (b < 0) = sb) (w : World) :
    Calls Try.prog 24 #[.int .i64 a, .int .i64 b] w fun e w' => e = .returned (.tuple #[.int .i64 (if sa != sb then wrap64 (-wrap64 lo) else wrap64 lo), .bool (hi == 0 && (if sa != sb then decide (lo ≤ 9223372036854775808) else decide (lo < 9223372036854775808)))]) ∧ Ext w w' := by
  cases sa <;> cases sb
  · rw [show (false != false) = false from rfl]
    cases he : (hi == 0)
    · go_enter Try.func24, Try.ntmps24
      go_wp2_with (first | (go_at_call 26; (with_reducible refine (S1.out _).mono ?_); rintro r w' ⟨rfl, x1, rfl⟩) | (go_at_call 26; (with_reducible refine (S2.out _).mono ?_); rintro r w' ⟨rfl, x2, rfl⟩) | (go_at_call 27; refine (M.out _).mono ?_; rintro r w' ⟨rfl, rfl⟩))
      go_returns
      exact ⟨rett rfl rfl, by (repeat' (first | with_reducible exact Ext.refl _ | with_reducible refine Ext.ext ?_ _ | with_reducible refine Ext.alloc ?_ _ | with_reducible refine Ext.drew ?_ | with_reducible refine Ext.drewN ?_ _ | with_reducible assumption))⟩
    · cases hl : decide (lo < 9223372036854775808)
      · go_enter Try.func24, Try.ntmps24
        go_wp2_with (first | (go_at_call 26; (with_reducible refine (S1.out _).mono ?_); rintro r w' ⟨rfl, x1, rfl⟩) | (go_at_call 26; (with_reducible refine (S2.out _).mono ?_); rintro r w' ⟨rfl, x2, rfl⟩) | (go_at_call 27; refine (M.out _).mono ?_; rintro r w' ⟨rfl, rfl⟩))
        go_returns
        exact ⟨rett rfl (by simp [hl]), by (repeat' (first | with_reducible exact Ext.refl _ | with_reducible refine Ext.ext ?_ _ | with_reducible refine Ext.alloc ?_ _ | with_reducible refine Ext.drew ?_ | with_reducible refine Ext.drewN ?_ _ | with_reducible assumption))⟩
      · go_enter Try.func24, Try.ntmps24
        go_wp2_with (first | (go_at_call 26; (with_reducible refine (S1.out _).mono ?_); rintro r w' ⟨rfl, x1, rfl⟩) | (go_at_call 26; (with_reducible refine (S2.out _).mono ?_); rintro r w' ⟨rfl, x2, rfl⟩) | (go_at_call 27; refine (M.out _).mono ?_; rintro r w' ⟨rfl, rfl⟩))
        go_returns
        exact ⟨rett rfl (by simp [hl]), by (repeat' (first | with_reducible exact Ext.refl _ | with_reducible refine Ext.ext ?_ _ | with_reducible refine Ext.alloc ?_ _ | with_reducible refine Ext.drew ?_ | with_reducible refine Ext.drewN ?_ _ | with_reducible assumption))⟩
  · rw [show (false != true) = true from rfl]
    cases he : (hi == 0)
    · go_enter Try.func24, Try.ntmps24
      go_wp2_with (first | (go_at_call 26; (with_reducible refine (S1.out _).mono ?_); rintro r w' ⟨rfl, x1, rfl⟩) | (go_at_call 26; (with_reducible refine (S2.out _).mono ?_); rintro r w' ⟨rfl, x2, rfl⟩) | (go_at_call 27; refine (M.out _).mono ?_; rintro r w' ⟨rfl, rfl⟩))
      go_returns
      exact ⟨rett rfl rfl, by (repeat' (first | with_reducible exact Ext.refl _ | with_reducible refine Ext.ext ?_ _ | with_reducible refine Ext.alloc ?_ _ | with_reducible refine Ext.drew ?_ | with_reducible refine Ext.drewN ?_ _ | with_reducible assumption))⟩
    · cases hl : decide (lo ≤ 9223372036854775808)
      · go_enter Try.func24, Try.ntmps24
        go_wp2_with (first | (go_at_call 26; (with_reducible refine (S1.out _).mono ?_); rintro r w' ⟨rfl, x1, rfl⟩) | (go_at_call 26; (with_reducible refine (S2.out _).mono ?_); rintro r w' ⟨rfl, x2, rfl⟩) | (go_at_call 27; refine (M.out _).mono ?_; rintro r w' ⟨rfl, rfl⟩))
        go_returns
        exact ⟨rett rfl (by simp [hl]), by (repeat' (first | with_reducible exact Ext.refl _ | with_reducible refine Ext.ext ?_ _ | with_reducible refine Ext.alloc ?_ _ | with_reducible refine Ext.drew ?_ | with_reducible refine Ext.drewN ?_ _ | with_reducible assumption))⟩
      · go_enter Try.func24, Try.ntmps24
        go_wp2_with (first | (go_at_call 26; (with_reducible refine (S1.out _).mono ?_); rintro r w' ⟨rfl, x1, rfl⟩) | (go_at_call 26; (with_reducible refine (S2.out _).mono ?_); rintro r w' ⟨rfl, x2, rfl⟩) | (go_at_call 27; refine (M.out _).mono ?_; rintro r w' ⟨rfl, rfl⟩))
        go_returns
        exact ⟨rett rfl (by simp [hl]), by (repeat' (first | with_reducible exact Ext.refl _ | with_reducible refine Ext.ext ?_ _ | with_reducible refine Ext.alloc ?_ _ | with_reducible refine Ext.drew ?_ | with_reducible refine Ext.drewN ?_ _ | with_reducible assumption))⟩
  · rw [show (true != false) = true from rfl]
    cases he : (hi == 0)
    · go_enter Try.func24, Try.ntmps24
      go_wp2_with (first | (go_at_call 26; (with_reducible refine (S1.out _).mono ?_); rintro r w' ⟨rfl, x1, rfl⟩) | (go_at_call 26; (with_reducible refine (S2.out _).mono ?_); rintro r w' ⟨rfl, x2, rfl⟩) | (go_at_call 27; refine (M.out _).mono ?_; rintro r w' ⟨rfl, rfl⟩))
      go_returns
      exact ⟨rett rfl rfl, by (repeat' (first | with_reducible exact Ext.refl _ | with_reducible refine Ext.ext ?_ _ | with_reducible refine Ext.alloc ?_ _ | with_reducible refine Ext.drew ?_ | with_reducible refine Ext.drewN ?_ _ | with_reducible assumption))⟩
    · cases hl : decide (lo ≤ 9223372036854775808)
      · go_enter Try.func24, Try.ntmps24
        go_wp2_with (first | (go_at_call 26; (with_reducible refine (S1.out _).mono ?_); rintro r w' ⟨rfl, x1, rfl⟩) | (go_at_call 26; (with_reducible refine (S2.out _).mono ?_); rintro r w' ⟨rfl, x2, rfl⟩) | (go_at_call 27; refine (M.out _).mono ?_; rintro r w' ⟨rfl, rfl⟩))
        go_returns
        exact ⟨rett rfl (by simp [hl]), by (repeat' (first | with_reducible exact Ext.refl _ | with_reducible refine Ext.ext ?_ _ | with_reducible refine Ext.alloc ?_ _ | with_reducible refine Ext.drew ?_ | with_reducible refine Ext.drewN ?_ _ | with_reducible assumption))⟩
      · go_enter Try.func24, Try.ntmps24
        go_wp2_with (first | (go_at_call 26; (with_reducible refine (S1.out _).mono ?_); rintro r w' ⟨rfl, x1, rfl⟩) | (go_at_call 26; (with_reducible refine (S2.out _).mono ?_); rintro r w' ⟨rfl, x2, rfl⟩) | (go_at_call 27; refine (M.out _).mono ?_; rintro r w' ⟨rfl, rfl⟩))
        go_returns
        exact ⟨rett rfl (by simp [hl]), by (repeat' (first | with_reducible exact Ext.refl _ | with_reducible refine Ext.ext ?_ _ | with_reducible refine Ext.alloc ?_ _ | with_reducible refine Ext.drew ?_ | with_reducible refine Ext.drewN ?_ _ | with_reducible assumption))⟩
  · rw [show (true != true) = false from rfl]
    cases he : (hi == 0)
    · go_enter Try.func24, Try.ntmps24
      go_wp2_with (first | (go_at_call 26; (with_reducible refine (S1.out _).mono ?_); rintro r w' ⟨rfl, x1, rfl⟩) | (go_at_call 26; (with_reducible refine (S2.out _).mono ?_); rintro r w' ⟨rfl, x2, rfl⟩) | (go_at_call 27; refine (M.out _).mono ?_; rintro r w' ⟨rfl, rfl⟩))
      go_returns
      exact ⟨rett rfl rfl, by (repeat' (first | with_reducible exact Ext.refl _ | with_reducible refine Ext.ext ?_ _ | with_reducible refine Ext.alloc ?_ _ | with_reducible refine Ext.drew ?_ | with_reducible refine Ext.drewN ?_ _ | with_reducible assumption))⟩
    · cases hl : decide (lo < 9223372036854775808)
      · go_enter Try.func24, Try.ntmps24
        go_wp2_with (first | (go_at_call 26; (with_reducible refine (S1.out _).mono ?_); rintro r w' ⟨rfl, x1, rfl⟩) | (go_at_call 26; (with_reducible refine (S2.out _).mono ?_); rintro r w' ⟨rfl, x2, rfl⟩) | (go_at_call 27; refine (M.out _).mono ?_; rintro r w' ⟨rfl, rfl⟩))
        go_returns
        exact ⟨rett rfl (by simp [hl]), by (repeat' (first | with_reducible exact Ext.refl _ | with_reducible refine Ext.ext ?_ _ | with_reducible refine Ext.alloc ?_ _ | with_reducible refine Ext.drew ?_ | with_reducible refine Ext.drewN ?_ _ | with_reducible assumption))⟩
      · go_enter Try.func24, Try.ntmps24
        go_wp2_with (first | (go_at_call 26; (with_reducible refine (S1.out _).mono ?_); rintro r w' ⟨rfl, x1, rfl⟩) | (go_at_call 26; (with_reducible refine (S2.out _).mono ?_); rintro r w' ⟨rfl, x2, rfl⟩) | (go_at_call 27; refine (M.out _).mono ?_; rintro r w' ⟨rfl, rfl⟩))
        go_returns
        exact ⟨rett rfl (by simp [hl]), by (repeat' (first | with_reducible exact Ext.refl _ | with_reducible refine Ext.ext ?_ _ | with_reducible refine Ext.alloc ?_ _ | with_reducible refine Ext.drew ?_ | with_reducible refine Ext.drewN ?_ _ | with_reducible assumption))⟩
theorem times_any (a b : Int) (ha : In64 a) (hb : In64 b) : ∃ y, (In64 (a * b) → y = a * b) ∧ ∀ w, Calls Try.prog 24 #[.int .i64 a, .int .i64 b] w fun e w' => e = .returned (.tuple #[.int .i64 y, .bool (decide (In64 (a * b)))]) ∧ Ext w w' := by
  have bx : a.natAbs < 18446744073709551616 := by unfold In64 at ha; omega
  have by' : b.natAbs < 18446744073709551616 := by unfold In64 at hb; omega
  obtain ⟨hi, lo, hm, h0, l0, l1, M'⟩ := mul64_parts a.natAbs b.natAbs bx by'
  have C := times_core a b hi lo a.natAbs b.natAbs (Lib.hid (fun w => size_any a ha w)) (Lib.hid (fun w => size_any b hb w)) (Lib.hid M') _ _ rfl rfl
  clear M' ha hb bx by'
  cases hs : (decide (a < 0) != decide (b < 0)) with
  | true =>
    have hab := mul_opp hs
    rw [hs] at C
    generalize hp : a * b = p at *
    generalize a.natAbs * b.natAbs = m at *
    refine ⟨wrap64 (-wrap64 lo), by unfold In64 wrap64; omega, ?_⟩
    have hd : decide (In64 p) = (hi == 0 && decide (lo ≤ 9223372036854775808)) := by
      rw [show (hi == 0) = decide (hi = 0) from rfl, ← Bool.decide_and]
      refine decide_eq_decide.2 ?_
      unfold In64
      omega
    rw [hd]
    exact C
  | false =>
    have hab := mul_same hs
    rw [hs] at C
    generalize hp : a * b = p at *
    generalize a.natAbs * b.natAbs = m at *
    refine ⟨wrap64 lo, by unfold In64 wrap64; omega, ?_⟩
    have hd : decide (In64 p) = (hi == 0 && decide (lo < 9223372036854775808)) := by
      rw [show (hi == 0) = decide (hi = 0) from rfl, ← Bool.decide_and]
      refine decide_eq_decide.2 ?_
      unfold In64
      omega
    rw [hd]
    exact C
end Go.Proofs.Ytddckdlkopohhaa

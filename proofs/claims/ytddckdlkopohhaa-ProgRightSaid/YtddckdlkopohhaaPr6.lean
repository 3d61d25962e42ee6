/- Prog: two: what an operation of two numbers makes. -/
import Derived.Test.YtddckdlkopohhaaPr5
namespace Go.Proofs.Ytddckdlkopohhaa
set_option linter.unusedSimpArgs false
set_option linter.unusedVariables false
open Go.RowKit

def fit (n : Int) : Int × Int := if In64 n then (n, 0) else (0, 2)
/-- What two numbers make; the error. -/
def twoS (op a b : Int) : Int × Int :=
  if op = 4 then fit (a + b)
  else if op = 5 then fit (a - b)
  else if op = 6 then fit (a * b)
  else if op = 7 then (if b = 0 then (0, 3) else fit (a.tdiv b))
  else if op = 8 then (if b = 0 then (0, 3) else (a.tmod b, 0))
  else if op = 9 then (if decide (a < b) then 1 else 0, 0)
  else if op = 10 then (if a == b then 1 else 0, 0)
  else (0, 0)
/-- What 'two' is to answer. -/
def TwoAt (op a b : Int) (r : Int × Int) : Prop := ∀ w, Calls Try.prog 22 #[.int .i64 op, .int .i64 a, .int .i64 b] w fun e w' => e = .returned (.tuple #[.int .i64 r.1, .int .i64 r.2]) ∧ Ext w w'
theorem fit_add {a b : Int} (ha : In64 a) (hb : In64 b) : fit (a + b) = if ((decide (a < 0) != decide (b < 0)) || (decide (wrap64 (a + b) < 0) == decide (a < 0))) = true then (wrap64 (a + b), 0) else (0, 2) := by
  unfold In64 at ha hb
  have e : In64 (a + b) → wrap64 (a + b) = a + b := fun h => IntWalk.wrap64_in _ h
  have k : In64 (a + b) ↔ ((decide (a < 0) != decide (b < 0)) || (decide (wrap64 (a + b) < 0) == decide (a < 0))) = true := by
    by_cases h1 : a < 0 <;> by_cases h2 : b < 0 <;> simp only [h1, h2, decide_true, decide_false] <;> by_cases h3 : wrap64 (a + b) < 0 <;> simp only [h3, decide_true, decide_false] <;> unfold In64 <;> unfold wrap64 at h3 <;> simp <;> omega
  unfold fit
  by_cases h : In64 (a + b)
  · rw [if_pos h, if_pos (k.1 h), e h]
  · rw [if_neg h, if_neg (fun g => h (k.2 g))]
theorem fit_sub {a b : Int} (ha : In64 a) (hb : In64 b) : fit (a - b) = if ((decide (a < 0) == decide (b < 0)) || (decide (wrap64 (a - b) < 0) == decide (a < 0))) = true then (wrap64 (a - b), 0) else (0, 2) := by
  unfold In64 at ha hb
  have e : In64 (a - b) → wrap64 (a - b) = a - b := fun h => IntWalk.wrap64_in _ h
  have k : In64 (a - b) ↔ ((decide (a < 0) == decide (b < 0)) || (decide (wrap64 (a - b) < 0) == decide (a < 0))) = true := by
    by_cases h1 : a < 0 <;> by_cases h2 : b < 0 <;> simp only [h1, h2, decide_true, decide_false] <;> by_cases h3 : wrap64 (a - b) < 0 <;> simp only [h3, decide_true, decide_false] <;> unfold In64 <;> unfold wrap64 at h3 <;> simp <;> omega
  unfold fit
  by_cases h : In64 (a - b)
  · rw [if_pos h, if_pos (k.1 h), e h]
  · rw [if_neg h, if_neg (fun g => h (k.2 g))]
set_option maxHeartbeats 1000000 in
theorem two_4 {a b : Int} (ha : In64 a) (hb : In64 b) : TwoAt 4 a b (twoS 4 a b) := by
  rw [show twoS 4 a b = fit (a + b) from rfl, fit_add ha hb]
  clear ha hb
  intro w
  cases h1 : decide (a < 0) <;> cases h2 : decide (b < 0) <;> cases h3 : decide (wrap64 (a + b) < 0) <;> dsimp only [bne, Bool.or, BEq.beq, Bool.not] <;> simp only [decide_true, decide_false, if_true, reduceCtorEq, if_false, Bool.false_eq_true]
  all_goals
    go_enter Try.func22, Try.ntmps22
    go_wp2
    go_returns
    exact ⟨rett rfl rfl, by (repeat' (first | with_reducible exact Ext.refl _ | with_reducible refine Ext.ext ?_ _ | with_reducible refine Ext.alloc ?_ _ | with_reducible refine Ext.drew ?_ | with_reducible refine Ext.drewN ?_ _ | with_reducible assumption))⟩
set_option maxHeartbeats 1000000 in
theorem two_5 {a b : Int} (ha : In64 a) (hb : In64 b) : TwoAt 5 a b (twoS 5 a b) := by
  rw [show twoS 5 a b = fit (a - b) from rfl, fit_sub ha hb]
  clear ha hb
  intro w
  cases h1 : decide (a < 0) <;> cases h2 : decide (b < 0) <;> cases h3 : decide (wrap64 (a - b) < 0) <;> dsimp only [bne, Bool.or, BEq.beq, Bool.not] <;> simp only [decide_true, decide_false, if_true, reduceCtorEq, if_false, Bool.false_eq_true]
  all_goals
    go_enter Try.func22, Try.ntmps22
    go_wp2
    go_returns
    exact ⟨rett rfl rfl, by (repeat' (first | with_reducible exact Ext.refl _ | with_reducible refine Ext.ext ?_ _ | with_reducible refine Ext.alloc ?_ _ | with_reducible refine Ext.drew ?_ | with_reducible refine Ext.drewN ?_ _ | with_reducible assumption))⟩
theorem two_6 {a b : Int} (ha : In64 a) (hb : In64 b) : TwoAt 6 a b (twoS 6 a b) := by
  obtain ⟨y, h1, h2⟩ := times_any a b ha hb
  intro w
  rw [show twoS 6 a b = fit (a * b) from rfl]
  unfold fit
  by_cases h : In64 (a * b)
  · rw [if_pos h, ← h1 h]
    rw [decide_eq_true h] at h2
    have T := Lib.hid h2
    clear ha hb h1 h h2
    go_enter Try.func22, Try.ntmps22
    go_wp2_with (go_at_call 24; refine (T.out _).mono ?_; rintro r w' ⟨rfl, x1, rfl⟩)
    go_returns
    exact ⟨rett rfl rfl, by (repeat' (first | with_reducible exact Ext.refl _ | with_reducible refine Ext.ext ?_ _ | with_reducible refine Ext.alloc ?_ _ | with_reducible refine Ext.drew ?_ | with_reducible refine Ext.drewN ?_ _ | with_reducible assumption))⟩
  · rw [if_neg h]
    rw [decide_eq_false h] at h2
    have T := Lib.hid h2
    clear ha hb h1 h h2
    go_enter Try.func22, Try.ntmps22
    go_wp2_with (go_at_call 24; refine (T.out _).mono ?_; rintro r w' ⟨rfl, x1, rfl⟩)
    go_returns
    exact ⟨rett rfl rfl, by (repeat' (first | with_reducible exact Ext.refl _ | with_reducible refine Ext.ext ?_ _ | with_reducible refine Ext.alloc ?_ _ | with_reducible refine Ext.drew ?_ | with_reducible refine Ext.drewN ?_ _ | with_reducible assumption))⟩
theorem two_9 {a b : Int} : TwoAt 9 a b (twoS 9 a b) := by
  intro w
  rw [show twoS 9 a b = (if decide (a < b) then 1 else 0, 0) from rfl]
  have T := Lib.hid (fun w => truth_any (decide (a < b)) w)
  generalize (if decide (a < b) = true then (1 : Int) else 0) = y at *
  go_enter Try.func22, Try.ntmps22
  go_wp2_with (go_at_call 25; refine (T.out _).mono ?_; rintro r w' ⟨rfl, x1, rfl⟩)
  go_returns
  exact ⟨rett rfl rfl, by (repeat' (first | with_reducible exact Ext.refl _ | with_reducible refine Ext.ext ?_ _ | with_reducible refine Ext.alloc ?_ _ | with_reducible refine Ext.drew ?_ | with_reducible refine Ext.drewN ?_ _ | with_reducible assumption))⟩
theorem two_10 {a b : Int} : TwoAt 10 a b (twoS 10 a b) := by
  intro w
  rw [show twoS 10 a b = (if a == b then 1 else 0, 0) from rfl]
  have T := Lib.hid (fun w => truth_any (a == b) w)
  generalize (if (a == b) = true then (1 : Int) else 0) = y at *
  go_enter Try.func22, Try.ntmps22
  go_wp2_with (go_at_call 25; refine (T.out _).mono ?_; rintro r w' ⟨rfl, x1, rfl⟩)
  go_returns
  exact ⟨rett rfl rfl, by (repeat' (first | with_reducible exact Ext.refl _ | with_reducible refine Ext.ext ?_ _ | with_reducible refine Ext.alloc ?_ _ | with_reducible refine Ext.drew ?_ | with_reducible refine Ext.drewN ?_ _ | with_reducible assumption))⟩
theorem two_7 {a b : Int} (ha : In64 a) (hb : In64 b) : TwoAt 7 a b (twoS 7 a b) := by
  intro w
  by_cases h0 : b = 0
  · subst h0
    rw [show twoS 7 a 0 = (0, 3) from rfl]
    clear ha hb
    go_enter Try.func22, Try.ntmps22
    go_wp2
    go_returns
    exact ⟨rett rfl rfl, by (repeat' (first | with_reducible exact Ext.refl _ | with_reducible refine Ext.ext ?_ _ | with_reducible refine Ext.alloc ?_ _ | with_reducible refine Ext.drew ?_ | with_reducible refine Ext.drewN ?_ _ | with_reducible assumption))⟩
  have hS : twoS 7 a b = fit (a.tdiv b) := by unfold twoS; rw [if_neg (by decide), if_neg (by decide), if_neg (by decide), if_pos rfl, if_neg h0]
  rw [hS]
  by_cases h1 : b = -1
  · subst h1
    have e1 : a.tdiv (-1) = -a := by rw [Int.tdiv_neg, Int.tdiv_one]
    rw [e1]
    by_cases hm : a = -9223372036854775808
    · subst hm
      rw [show fit (-(-9223372036854775808)) = (0, 2) by rw [fit, if_neg (by decide)]]
      clear ha hb h0 hS e1
      go_enter Try.func22, Try.ntmps22
      go_wp2
      go_returns
      exact ⟨rett rfl rfl, by (repeat' (first | with_reducible exact Ext.refl _ | with_reducible refine Ext.ext ?_ _ | with_reducible refine Ext.alloc ?_ _ | with_reducible refine Ext.drew ?_ | with_reducible refine Ext.drewN ?_ _ | with_reducible assumption))⟩
    · have hf : fit (-a) = (-a, 0) := by
        unfold In64 at ha
        rw [fit, if_pos (by unfold In64; omega)]
      have hw : wrap64 (-a) = -a := by
        unfold In64 at ha
        unfold wrap64
        omega
      have hm' : (a != -9223372036854775808) = true := by simp [hm]
      rw [hf, ← hw]
      clear ha hb h0 hS e1 hm hf hw
      go_enter Try.func22, Try.ntmps22
      go_wp2
      go_returns
      exact ⟨rett rfl rfl, by (repeat' (first | with_reducible exact Ext.refl _ | with_reducible refine Ext.ext ?_ _ | with_reducible refine Ext.alloc ?_ _ | with_reducible refine Ext.drew ?_ | with_reducible refine Ext.drewN ?_ _ | with_reducible assumption))⟩
  · have hi : In64 (a.tdiv b) := by
      unfold In64 at ha ⊢
      by_cases h2 : b = 1
      · subst h2
        rw [Int.tdiv_one]
        exact ha
      · have h3 : (a.tdiv b).natAbs ≤ a.natAbs / 2 := by
          rw [Int.natAbs_tdiv]
          exact Nat.div_le_div_left (by omega) (by decide)
        omega
    have hf : fit (a.tdiv b) = (a.tdiv b, 0) := by rw [fit, if_pos hi]
    have hw : wrap64 (a.tdiv b) = a.tdiv b := IntWalk.wrap64_in _ hi
    have n0 : (b == 0) = false := by simp [h0]
    have n1 : (b == -1) = false := by simp [h1]
    rw [hf, ← hw]
    clear ha hb hS hi hf hw
    go_enter Try.func22, Try.ntmps22
    go_wp2
    go_returns
    exact ⟨rett rfl rfl, by (repeat' (first | with_reducible exact Ext.refl _ | with_reducible refine Ext.ext ?_ _ | with_reducible refine Ext.alloc ?_ _ | with_reducible refine Ext.drew ?_ | with_reducible refine Ext.drewN ?_ _ | with_reducible assumption))⟩
theorem two_8 {a b : Int} (ha : In64 a) (hb : In64 b) : TwoAt 8 a b (twoS 8 a b) := by
  intro w
  by_cases h0 : b = 0
  · subst h0
    rw [show twoS 8 a 0 = (0, 3) from rfl]
    clear ha hb
    go_enter Try.func22, Try.ntmps22
    go_wp2
    go_returns
    exact ⟨rett rfl rfl, by (repeat' (first | with_reducible exact Ext.refl _ | with_reducible refine Ext.ext ?_ _ | with_reducible refine Ext.alloc ?_ _ | with_reducible refine Ext.drew ?_ | with_reducible refine Ext.drewN ?_ _ | with_reducible assumption))⟩
  have hS : twoS 8 a b = (a.tmod b, 0) := by unfold twoS; rw [if_neg (by decide), if_neg (by decide), if_neg (by decide), if_neg (by decide), if_pos rfl, if_neg h0]
  rw [hS]
  by_cases h1 : b = -1
  · subst h1
    have e1 : a.tmod (-1) = 0 := by rw [Int.tmod_neg, Int.tmod_one]
    rw [e1]
    clear ha hb h0 hS e1
    go_enter Try.func22, Try.ntmps22
    go_wp2
    go_returns
    exact ⟨rett rfl rfl, by (repeat' (first | with_reducible exact Ext.refl _ | with_reducible refine Ext.ext ?_ _ | with_reducible refine Ext.alloc ?_ _ | with_reducible refine Ext.drew ?_ | with_reducible refine Ext.drewN ?_ _ | with_reducible assumption))⟩
  · have hi : In64 (a.tmod b) := by
      unfold In64 at ha ⊢
      have h3 : (a.tmod b).natAbs ≤ a.natAbs := by
        rw [Int.natAbs_tmod]
        exact Nat.mod_le _ _
      have h4 : a.natAbs < 9223372036854775808 ∨ a = -9223372036854775808 := by omega
      rcases h4 with h4 | h4
      · omega
      · have h5 : a.tmod b ≤ 0 := by
          have := Int.tmod_nonneg (a := -a) b (by omega)
          rw [Int.neg_tmod] at this
          omega
        omega
    have hw : wrap64 (a.tmod b) = a.tmod b := IntWalk.wrap64_in _ hi
    have n0 : (b == 0) = false := by simp [h0]
    have n1 : (b == -1) = false := by simp [h1]
    clear ha hb hS hi
    go_enter Try.func22, Try.ntmps22
    go_wp2
    go_returns
    exact ⟨rett rfl (by simp [hw]), by (repeat' (first | with_reducible exact Ext.refl _ | with_reducible refine Ext.ext ?_ _ | with_reducible refine Ext.alloc ?_ _ | with_reducible refine Ext.drew ?_ | with_reducible refine Ext.drewN ?_ _ | with_reducible assumption))⟩
theorem two_any (op a b : Int) (h1 : 4 ≤ op) (h2 : op ≤ 10) (ha : In64 a) (hb : In64 b) : TwoAt op a b (twoS op a b) := by
  obtain rfl | rfl | rfl | rfl | rfl | rfl | rfl : op = 4 ∨ op = 5 ∨ op = 6 ∨ op = 7 ∨ op = 8 ∨ op = 9 ∨ op = 10 := by omega
  · exact two_4 ha hb
  · exact two_5 ha hb
  · exact two_6 ha hb
  · exact two_7 ha hb
  · exact two_8 ha hb
  · exact two_9
  · exact two_10
theorem fit_in (n : Int) : In64 (fit n).1 ∧ 0 ≤ (fit n).2 ∧ (fit n).2 ≤ 3 := by
  unfold fit
  split
  · exact ⟨by assumption, Int.le_refl 0, (by decide : (0 : Int) ≤ 3)⟩
  · exact ⟨by decide, by decide, by decide⟩
theorem twoS_in (op a b : Int) (ha : In64 a) : In64 (twoS op a b).1 ∧ 0 ≤ (twoS op a b).2 ∧ (twoS op a b).2 ≤ 3 := by
  unfold twoS
  repeat' split
  all_goals first | exact fit_in _ | (refine ⟨?_, by dsimp only; decide, by dsimp only; decide⟩; first | decide | skip)
  all_goals
    rename_i h0
    have h3 : (a.tmod b).natAbs ≤ a.natAbs := by
      rw [Int.natAbs_tmod]
      exact Nat.mod_le _ _
    unfold In64 at ha ⊢
    dsimp only
    have h4 : a.natAbs < 9223372036854775808 ∨ a = -9223372036854775808 := by omega
    rcases h4 with h4 | h4
    · omega
    · have h5 : a.tmod b ≤ 0 := by
        have := Int.tmod_nonneg (a := -a) b (by omega)
        rw [Int.neg_tmod] at this
        omega
      omega
end Go.Proofs.Ytddckdlkopohhaa

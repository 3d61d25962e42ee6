/- The reference of layer 7: sum, product, one, Of: what two numbers make is what the program makes of them. -/
import Derived.Test.YtddckdlkopohhaaPr6
namespace Go.Proofs.Ytddckdlkopohhaa
set_option linter.unusedSimpArgs false
set_option linter.unusedVariables false
open Go.RowKit

/-- What a function of two numbers answers, with a word whether there is room. -/
def FitAt (f : FuncId) (a b n : Int) : Prop := ∀ w, Calls Try.prog f #[.int .i64 a, .int .i64 b] w fun e w' => e = .returned (.tuple #[.int .i64 (if In64 n then n else 0), .bool (decide (In64 n))]) ∧ Ext w w'
theorem sum_any {a b : Int} (ha : In64 a) (hb : In64 b) : FitAt 17 a b (a + b) := by
  intro w
  unfold In64 at ha hb
  by_cases h : In64 (a + b)
  · rw [if_pos h, decide_eq_true h]
    unfold In64 at h
    have ew : wrap64 (a + b) = a + b := IntWalk.wrap64_in _ h
    by_cases h1 : 0 < b
    · have e1 : decide (0 < b) = true := decide_eq_true h1
      have e2 : decide (b < 0) = false := decide_eq_false (by omega)
      have e3 : wrap64 (9223372036854775807 - b) = 9223372036854775807 - b := IntWalk.wrap64_in _ ⟨by omega, by omega⟩
      have e4 : decide (9223372036854775807 - b < a) = false := decide_eq_false (by omega)
      clear ha hb h h1
      go_enter Try.func17, Try.ntmps17
      go_wp2
      go_returns
      exact ⟨rett rfl (by rw [ew]; rfl), by (repeat' (first | with_reducible exact Ext.refl _ | with_reducible refine Ext.ext ?_ _ | with_reducible refine Ext.alloc ?_ _ | with_reducible refine Ext.drew ?_ | with_reducible refine Ext.drewN ?_ _ | with_reducible assumption))⟩
    · have e1 : decide (0 < b) = false := decide_eq_false h1
      by_cases h2 : b < 0
      · have e2 : decide (b < 0) = true := decide_eq_true h2
        have e3 : wrap64 (-9223372036854775808 - b) = -9223372036854775808 - b := IntWalk.wrap64_in _ ⟨by omega, by omega⟩
        have e4 : decide (a < -9223372036854775808 - b) = false := decide_eq_false (by omega)
        clear ha hb h h1 h2
        go_enter Try.func17, Try.ntmps17
        go_wp2
        go_returns
        exact ⟨rett rfl (by rw [ew]; rfl), by (repeat' (first | with_reducible exact Ext.refl _ | with_reducible refine Ext.ext ?_ _ | with_reducible refine Ext.alloc ?_ _ | with_reducible refine Ext.drew ?_ | with_reducible refine Ext.drewN ?_ _ | with_reducible assumption))⟩
      · have e2 : decide (b < 0) = false := decide_eq_false h2
        clear ha hb h h1 h2
        go_enter Try.func17, Try.ntmps17
        go_wp2
        go_returns
        exact ⟨rett rfl (by rw [ew]; rfl), by (repeat' (first | with_reducible exact Ext.refl _ | with_reducible refine Ext.ext ?_ _ | with_reducible refine Ext.alloc ?_ _ | with_reducible refine Ext.drew ?_ | with_reducible refine Ext.drewN ?_ _ | with_reducible assumption))⟩
  · rw [if_neg h, decide_eq_false h]
    unfold In64 at h
    by_cases h1 : 0 < b
    · have e1 : decide (0 < b) = true := decide_eq_true h1
      have e3 : wrap64 (9223372036854775807 - b) = 9223372036854775807 - b := IntWalk.wrap64_in _ ⟨by omega, by omega⟩
      have e4 : decide (9223372036854775807 - b < a) = true := decide_eq_true (by omega)
      clear ha hb h h1
      go_enter Try.func17, Try.ntmps17
      go_wp2
      go_returns
      exact ⟨rett rfl rfl, by (repeat' (first | with_reducible exact Ext.refl _ | with_reducible refine Ext.ext ?_ _ | with_reducible refine Ext.alloc ?_ _ | with_reducible refine Ext.drew ?_ | with_reducible refine Ext.drewN ?_ _ | with_reducible assumption))⟩
    · have e1 : decide (0 < b) = false := decide_eq_false h1
      have e2 : decide (b < 0) = true := decide_eq_true (by omega)
      have e3 : wrap64 (-9223372036854775808 - b) = -9223372036854775808 - b := IntWalk.wrap64_in _ ⟨by omega, by omega⟩
      have e4 : decide (a < -9223372036854775808 - b) = true := decide_eq_true (by omega)
      clear ha hb h h1
      go_enter Try.func17, Try.ntmps17
      go_wp2
      go_returns
      exact ⟨rett rfl rfl, by (repeat' (first | with_reducible exact Ext.refl _ | with_reducible refine Ext.ext ?_ _ | with_reducible refine Ext.alloc ?_ _ | with_reducible refine Ext.drew ?_ | with_reducible refine Ext.drewN ?_ _ | with_reducible assumption))⟩
theorem one_any (b : Bool) (w : World) : Calls Try.prog 19 #[.bool b] w fun e w' => e = .returned (.int .i64 (if b then 1 else 0)) ∧ Ext w w' := by
  cases b
  · go_enter Try.func19, Try.ntmps19
    go_wp2
    go_returns
    exact ⟨reti rfl (by rfl), by (repeat' (first | with_reducible exact Ext.refl _ | with_reducible refine Ext.ext ?_ _ | with_reducible refine Ext.alloc ?_ _ | with_reducible refine Ext.drew ?_ | with_reducible refine Ext.drewN ?_ _ | with_reducible assumption))⟩
  · go_enter Try.func19, Try.ntmps19
    go_wp2
    go_returns
    exact ⟨reti rfl (by rfl), by (repeat' (first | with_reducible exact Ext.refl _ | with_reducible refine Ext.ext ?_ _ | with_reducible refine Ext.alloc ?_ _ | with_reducible refine Ext.drew ?_ | with_reducible refine Ext.drewN ?_ _ | with_reducible assumption))⟩
/-- A product that wraps does not divide back. -/
theorem mul_back {a b : Int} (ha : In64 a) (hb : In64 b) (h0 : b ≠ 0) (h : ¬ In64 (a * b)) (hd : (wrap64 (a * b)).tdiv b = a) : False := by
  unfold In64 at ha hb h
  have e := Int.mul_tdiv_add_tmod (wrap64 (a * b)) b
  rw [hd] at e
  have hr : ((wrap64 (a * b)).tmod b).natAbs < b.natAbs := by
    rw [Int.natAbs_tmod]
    exact Nat.mod_lt _ (by omega)
  rw [Int.mul_comm b a] at e
  generalize (wrap64 (a * b)).tmod b = r at *
  generalize a * b = p at *
  unfold wrap64 at e
  omega
theorem tdiv_in {a b : Int} (ha : In64 a) (h1 : b ≠ -1) : In64 (a.tdiv b) := by
  unfold In64 at ha ⊢
  by_cases h2 : b = 1
  · subst h2
    rw [Int.tdiv_one]
    exact ha
  · by_cases h0 : b = 0
    · subst h0; rw [Int.tdiv_zero]; omega
    have h3 : (a.tdiv b).natAbs ≤ a.natAbs / 2 := by
      rw [Int.natAbs_tdiv]
      exact Nat.div_le_div_left (by omega) (by decide)
    omega
theorem wrap_in (n : Int) : In64 (wrap64 n) := by unfold In64 wrap64; omega
theorem product_any {a b : Int} (ha : In64 a) (hb : In64 b) : FitAt 18 a b (a * b) := by
  intro w
  by_cases h0 : a = 0
  · subst h0
    rw [Int.zero_mul, if_pos (by decide), show decide (In64 0) = true from rfl]
    clear ha hb
    go_enter Try.func18, Try.ntmps18
    go_wp2
    go_returns
    exact ⟨rett rfl rfl, by (repeat' (first | with_reducible exact Ext.refl _ | with_reducible refine Ext.ext ?_ _ | with_reducible refine Ext.alloc ?_ _ | with_reducible refine Ext.drew ?_ | with_reducible refine Ext.drewN ?_ _ | with_reducible assumption))⟩
  have e0 : (a == 0) = false := by simp [h0]
  by_cases h1 : b = 0
  · subst h1
    rw [Int.mul_zero, if_pos (by decide), show decide (In64 0) = true from rfl]
    clear ha hb h0
    go_enter Try.func18, Try.ntmps18
    go_wp2
    go_returns
    exact ⟨rett rfl rfl, by (repeat' (first | with_reducible exact Ext.refl _ | with_reducible refine Ext.ext ?_ _ | with_reducible refine Ext.alloc ?_ _ | with_reducible refine Ext.drew ?_ | with_reducible refine Ext.drewN ?_ _ | with_reducible assumption))⟩
  have e1 : (b == 0) = false := by simp [h1]
  by_cases h : In64 (a * b)
  · rw [if_pos h, decide_eq_true h]
    have ew : wrap64 (a * b) = a * b := IntWalk.wrap64_in _ h
    have ed : (a * b).tdiv b = a := Int.mul_tdiv_cancel a h1
    have ew2 : wrap64 a = a := IntWalk.wrap64_in _ ha
    have e3 : (a == a) = true := by simp
    have e6 : (a != a) = false := by simp
    have hz : ¬ (a = -1 ∧ b = -9223372036854775808) ∧ ¬ (b = -1 ∧ a = -9223372036854775808) := by
      refine ⟨?_, ?_⟩
      · rintro ⟨rfl, rfl⟩; exact absurd h (by decide)
      · rintro ⟨rfl, rfl⟩; exact absurd h (by decide)
    obtain ⟨c1, f1⟩ : ∃ c, (a == -1) = c := ⟨_, rfl⟩
    obtain ⟨c2, f2⟩ : ∃ c, (b == -9223372036854775808) = c := ⟨_, rfl⟩
    obtain ⟨c3, f3⟩ : ∃ c, (b == -1) = c := ⟨_, rfl⟩
    obtain ⟨c4, f4⟩ : ∃ c, (a == -9223372036854775808) = c := ⟨_, rfl⟩
    have g1 : (c1 && c2) = false := by
      subst f1 f2
      have := hz.1
      simp only [Bool.and_eq_false_iff, beq_eq_false_iff_ne, ne_eq]
      omega
    have g2 : (c3 && c4) = false := by
      subst f3 f4
      have := hz.2
      simp only [Bool.and_eq_false_iff, beq_eq_false_iff_ne, ne_eq]
      omega
    have pr : ∀ w, (c1 = false ∨ c2 = false) → (c3 = false ∨ c4 = false) → Calls Try.prog 18 #[.int .i64 a, .int .i64 b] w fun e w' => e = .returned (.tuple #[.int .i64 (a * b), .bool true]) ∧ Ext w w' := by
      have e7 : (wrap64 ((wrap64 (a * b)).tdiv b) != a) = false := by rw [ew, ed, ew2]; simp
      clear ha hb h h0 hz g1 g2
      intro w k1 k2
      cases c1 <;> cases c2 <;> cases c3 <;> cases c4 <;> first | (exfalso; simp at k1 k2; done) | skip
      all_goals clear k1 k2
      all_goals
        as_aux_lemma =>
          go_enter Try.func18, Try.ntmps18
          go_wp2
          go_returns
          exact ⟨rett rfl (by first | rfl | (rw [ew]; rfl)), by (repeat' (first | with_reducible exact Ext.refl _ | with_reducible refine Ext.ext ?_ _ | with_reducible refine Ext.alloc ?_ _ | with_reducible refine Ext.drew ?_ | with_reducible refine Ext.drewN ?_ _ | with_reducible assumption))⟩
    exact pr w (Bool.and_eq_false_iff.1 g1) (Bool.and_eq_false_iff.1 g2)
  · rw [if_neg h, decide_eq_false h]
    by_cases hs : (a = -1 ∧ b = -9223372036854775808) ∨ (b = -1 ∧ a = -9223372036854775808)
    · rcases hs with ⟨rfl, rfl⟩ | ⟨rfl, rfl⟩
      · clear ha hb h h0 h1
        go_enter Try.func18, Try.ntmps18
        go_wp2
        go_returns
        exact ⟨rett rfl rfl, by (repeat' (first | with_reducible exact Ext.refl _ | with_reducible refine Ext.ext ?_ _ | with_reducible refine Ext.alloc ?_ _ | with_reducible refine Ext.drew ?_ | with_reducible refine Ext.drewN ?_ _ | with_reducible assumption))⟩
      · clear ha hb h h0 h1
        go_enter Try.func18, Try.ntmps18
        go_wp2
        go_returns
        exact ⟨rett rfl rfl, by (repeat' (first | with_reducible exact Ext.refl _ | with_reducible refine Ext.ext ?_ _ | with_reducible refine Ext.alloc ?_ _ | with_reducible refine Ext.drew ?_ | with_reducible refine Ext.drewN ?_ _ | with_reducible assumption))⟩
    · have h3 : b ≠ -1 := by
        rintro rfl
        apply h
        unfold In64 at ha ⊢
        omega
      have ew2 : wrap64 ((wrap64 (a * b)).tdiv b) = (wrap64 (a * b)).tdiv b := IntWalk.wrap64_in _ (tdiv_in (wrap_in _) h3)
      have e5 : (b == -1) = false := by simp [h3]
      have e6 : ((wrap64 (a * b)).tdiv b != a) = true := by
        simp only [bne_iff_ne, ne_eq]
        exact fun e => mul_back ha hb h1 h e
      have e8 : (wrap64 ((wrap64 (a * b)).tdiv b) != a) = true := by rw [ew2]; exact e6
      obtain ⟨c1, f1⟩ : ∃ c, (a == -1) = c := ⟨_, rfl⟩
      obtain ⟨c2, f2⟩ : ∃ c, (b == -9223372036854775808) = c := ⟨_, rfl⟩
      have g1 : (c1 && c2) = false := by
        subst f1 f2
        simp only [Bool.and_eq_false_iff, beq_eq_false_iff_ne, ne_eq]
        omega
      clear ha hb h h0 hs h3 ew2 e6
      have pr : ∀ w, (c1 = false ∨ c2 = false) → Calls Try.prog 18 #[.int .i64 a, .int .i64 b] w fun e w' => e = .returned (.tuple #[.int .i64 0, .bool false]) ∧ Ext w w' := by
        clear g1
        intro w k1
        cases c1 <;> cases c2 <;> first | (exfalso; simp at k1; done) | skip
        all_goals clear k1
        all_goals
          as_aux_lemma =>
            go_enter Try.func18, Try.ntmps18
            go_wp2
            go_returns
            exact ⟨rett rfl rfl, by (repeat' (first | with_reducible exact Ext.refl _ | with_reducible refine Ext.ext ?_ _ | with_reducible refine Ext.alloc ?_ _ | with_reducible refine Ext.drew ?_ | with_reducible refine Ext.drewN ?_ _ | with_reducible assumption))⟩
      exact pr w (Bool.and_eq_false_iff.1 g1)
/-- What 'Of' is to answer. -/
def OfAt (op a b : Int) (r : Int × Int) : Prop := ∀ w, Calls Try.prog 14 #[.int .i64 op, .int .i64 a, .int .i64 b] w fun e w' => e = .returned (.tuple #[.int .i64 r.1, .int .i64 r.2]) ∧ Ext w w'
theorem of_fit {op a b n a' b' : Int} {f : FuncId} (hf : FitAt f a' b' n) (h : ∀ y k e, (∀ w, Calls Try.prog f #[.int .i64 a', .int .i64 b'] w fun e w' => e = .returned (.tuple #[.int .i64 y, .bool k]) ∧ Ext w w') → (k = true → e = (y, 0)) → (k = false → e = (0, 2)) → OfAt op a b e) : OfAt op a b (fit n) := by
  refine h _ _ _ hf (fun hk => ?_) (fun hk => ?_)
  · have := of_decide_eq_true hk
    rw [fit, if_pos this, if_pos this]
  · have := of_decide_eq_false hk
    rw [fit, if_neg this]
theorem of_4 {a b : Int} (ha : In64 a) (hb : In64 b) : OfAt 4 a b (twoS 4 a b) := by
  rw [show twoS 4 a b = fit (a + b) from rfl]
  refine of_fit (sum_any ha hb) (fun y k e T h1 h2 w => ?_)
  have T := Lib.hid T
  clear ha hb
  cases k with
  | true =>
    obtain rfl := h1 rfl
    clear h1 h2
    go_enter Try.func14, Try.ntmps14
    go_wp2_with (go_at_call 17; refine (T.out _).mono ?_; rintro r w' ⟨rfl, x1, rfl⟩)
    go_returns
    exact ⟨rett rfl rfl, by (repeat' (first | with_reducible exact Ext.refl _ | with_reducible refine Ext.ext ?_ _ | with_reducible refine Ext.alloc ?_ _ | with_reducible refine Ext.drew ?_ | with_reducible refine Ext.drewN ?_ _ | with_reducible assumption))⟩
  | false =>
    obtain rfl := h2 rfl
    clear h1 h2
    go_enter Try.func14, Try.ntmps14
    go_wp2_with (go_at_call 17; refine (T.out _).mono ?_; rintro r w' ⟨rfl, x1, rfl⟩)
    go_returns
    exact ⟨rett rfl rfl, by (repeat' (first | with_reducible exact Ext.refl _ | with_reducible refine Ext.ext ?_ _ | with_reducible refine Ext.alloc ?_ _ | with_reducible refine Ext.drew ?_ | with_reducible refine Ext.drewN ?_ _ | with_reducible assumption))⟩
theorem of_6 {a b : Int} (ha : In64 a) (hb : In64 b) : OfAt 6 a b (twoS 6 a b) := by
  rw [show twoS 6 a b = fit (a * b) from rfl]
  refine of_fit (product_any ha hb) (fun y k e T h1 h2 w => ?_)
  have T := Lib.hid T
  clear ha hb
  cases k with
  | true =>
    obtain rfl := h1 rfl
    clear h1 h2
    go_enter Try.func14, Try.ntmps14
    go_wp2_with (go_at_call 18; refine (T.out _).mono ?_; rintro r w' ⟨rfl, x1, rfl⟩)
    go_returns
    exact ⟨rett rfl rfl, by (repeat' (first | with_reducible exact Ext.refl _ | with_reducible refine Ext.ext ?_ _ | with_reducible refine Ext.alloc ?_ _ | with_reducible refine Ext.drew ?_ | with_reducible refine Ext.drewN ?_ _ | with_reducible assumption))⟩
  | false =>
    obtain rfl := h2 rfl
    clear h1 h2
    go_enter Try.func14, Try.ntmps14
    go_wp2_with (go_at_call 18; refine (T.out _).mono ?_; rintro r w' ⟨rfl, x1, rfl⟩)
    go_returns
    exact ⟨rett rfl rfl, by (repeat' (first | with_reducible exact Ext.refl _ | with_reducible refine Ext.ext ?_ _ | with_reducible refine Ext.alloc ?_ _ | with_reducible refine Ext.drew ?_ | with_reducible refine Ext.drewN ?_ _ | with_reducible assumption))⟩
theorem of_5 {a b : Int} (ha : In64 a) (hb : In64 b) : OfAt 5 a b (twoS 5 a b) := by
  rw [show twoS 5 a b = fit (a - b) from rfl]
  by_cases h : b = -9223372036854775808
  · subst h
    intro w
    unfold In64 at ha
    by_cases h1 : a < 0
    · have e1 : decide (a < 0) = true := decide_eq_true h1
      have ew : wrap64 (a - -9223372036854775808) = a - -9223372036854775808 := IntWalk.wrap64_in _ ⟨by omega, by omega⟩
      rw [fit, if_pos (by unfold In64; omega), ← ew]
      clear ha hb h1 ew
      go_enter Try.func14, Try.ntmps14
      go_wp2
      go_returns
      exact ⟨rett rfl rfl, by (repeat' (first | with_reducible exact Ext.refl _ | with_reducible refine Ext.ext ?_ _ | with_reducible refine Ext.alloc ?_ _ | with_reducible refine Ext.drew ?_ | with_reducible refine Ext.drewN ?_ _ | with_reducible assumption))⟩
    · have e1 : decide (a < 0) = false := decide_eq_false h1
      rw [fit, if_neg (by unfold In64; omega)]
      clear ha hb h1
      go_enter Try.func14, Try.ntmps14
      go_wp2
      go_returns
      exact ⟨rett rfl rfl, by (repeat' (first | with_reducible exact Ext.refl _ | with_reducible refine Ext.ext ?_ _ | with_reducible refine Ext.alloc ?_ _ | with_reducible refine Ext.drew ?_ | with_reducible refine Ext.drewN ?_ _ | with_reducible assumption))⟩
  · have hnb : In64 (-b) := by unfold In64 at hb ⊢; omega
    rw [show a - b = a + -b by omega]
    refine of_fit (sum_any ha hnb) (fun y k e T h1 h2 w => ?_)
    have e1 : (b == -9223372036854775808) = false := by simp [h]
    have ew : wrap64 (-b) = -b := IntWalk.wrap64_in _ hnb
    have T := Lib.hid T
    clear ha hb h hnb
    cases k with
    | true =>
      obtain rfl := h1 rfl
      clear h1 h2
      go_enter Try.func14, Try.ntmps14
      go_wp2_with (go_at_call 17; refine (T.out _).mono ?_; rintro r w' ⟨rfl, x1, rfl⟩)
      go_returns
      exact ⟨rett rfl rfl, by (repeat' (first | with_reducible exact Ext.refl _ | with_reducible refine Ext.ext ?_ _ | with_reducible refine Ext.alloc ?_ _ | with_reducible refine Ext.drew ?_ | with_reducible refine Ext.drewN ?_ _ | with_reducible assumption))⟩
    | false =>
      obtain rfl := h2 rfl
      clear h1 h2
      go_enter Try.func14, Try.ntmps14
      go_wp2_with (go_at_call 17; refine (T.out _).mono ?_; rintro r w' ⟨rfl, x1, rfl⟩)
      go_returns
      exact ⟨rett rfl rfl, by (repeat' (first | with_reducible exact Ext.refl _ | with_reducible refine Ext.ext ?_ _ | with_reducible refine Ext.alloc ?_ _ | with_reducible refine Ext.drew ?_ | with_reducible refine Ext.drewN ?_ _ | with_reducible assumption))⟩
theorem of_9 {a b : Int} : OfAt 9 a b (twoS 9 a b) := by
  intro w
  rw [show twoS 9 a b = (if decide (a < b) then 1 else 0, 0) from rfl]
  have T := Lib.hid (fun w => one_any (decide (a < b)) w)
  generalize (if decide (a < b) = true then (1 : Int) else 0) = y at *
  go_enter Try.func14, Try.ntmps14
  go_wp2_with (go_at_call 19; refine (T.out _).mono ?_; rintro r w' ⟨rfl, x1, rfl⟩)
  go_returns
  exact ⟨rett rfl rfl, by (repeat' (first | with_reducible exact Ext.refl _ | with_reducible refine Ext.ext ?_ _ | with_reducible refine Ext.alloc ?_ _ | with_reducible refine Ext.drew ?_ | with_reducible refine Ext.drewN ?_ _ | with_reducible assumption))⟩
theorem of_10 {a b : Int} : OfAt 10 a b (twoS 10 a b) := by
  intro w
  rw [show twoS 10 a b = (if a == b then 1 else 0, 0) from rfl]
  have T := Lib.hid (fun w => one_any (a == b) w)
  generalize (if (a == b) = true then (1 : Int) else 0) = y at *
  go_enter Try.func14, Try.ntmps14
  go_wp2_with (go_at_call 19; refine (T.out _).mono ?_; rintro r w' ⟨rfl, x1, rfl⟩)
  go_returns
  exact ⟨rett rfl rfl, by (repeat' (first | with_reducible exact Ext.refl _ | with_reducible refine Ext.ext ?_ _ | with_reducible refine Ext.alloc ?_ _ | with_reducible refine Ext.drew ?_ | with_reducible refine Ext.drewN ?_ _ | with_reducible assumption))⟩
theorem of_7 {a b : Int} (ha : In64 a) (hb : In64 b) : OfAt 7 a b (twoS 7 a b) := by
  intro w
  by_cases h0 : b = 0
  · subst h0
    rw [show twoS 7 a 0 = (0, 3) from rfl]
    clear ha hb
    go_enter Try.func14, Try.ntmps14
    go_wp2
    go_returns
    exact ⟨rett rfl rfl, by (repeat' (first | with_reducible exact Ext.refl _ | with_reducible refine Ext.ext ?_ _ | with_reducible refine Ext.alloc ?_ _ | with_reducible refine Ext.drew ?_ | with_reducible refine Ext.drewN ?_ _ | with_reducible assumption))⟩
  have hS : twoS 7 a b = fit (a.tdiv b) := by unfold twoS; rw [if_neg (by decide), if_neg (by decide), if_neg (by decide), if_pos rfl, if_neg h0]
  rw [hS]
  have n0 : (b == 0) = false := by simp [h0]
  by_cases h1 : b = -1
  · subst h1
    have e1 : a.tdiv (-1) = -a := by rw [Int.tdiv_neg, Int.tdiv_one]
    by_cases hm : a = -9223372036854775808
    · subst hm
      rw [e1, show fit (-(-9223372036854775808)) = (0, 2) by rw [fit, if_neg (by decide)]]
      clear ha hb h0 hS e1
      go_enter Try.func14, Try.ntmps14
      go_wp2
      go_returns
      exact ⟨rett rfl rfl, by (repeat' (first | with_reducible exact Ext.refl _ | with_reducible refine Ext.ext ?_ _ | with_reducible refine Ext.alloc ?_ _ | with_reducible refine Ext.drew ?_ | with_reducible refine Ext.drewN ?_ _ | with_reducible assumption))⟩
    · have hi : In64 (a.tdiv (-1)) := by
        rw [e1]
        unfold In64 at ha ⊢
        omega
      have hw : wrap64 (a.tdiv (-1)) = a.tdiv (-1) := IntWalk.wrap64_in _ hi
      have hm' : (a == -9223372036854775808) = false := by simp [hm]
      rw [fit, if_pos hi, ← hw, e1]
      clear ha hb h0 hS e1 hm hw hi
      go_enter Try.func14, Try.ntmps14
      go_wp2
      go_returns
      exact ⟨rett rfl rfl, by (repeat' (first | with_reducible exact Ext.refl _ | with_reducible refine Ext.ext ?_ _ | with_reducible refine Ext.alloc ?_ _ | with_reducible refine Ext.drew ?_ | with_reducible refine Ext.drewN ?_ _ | with_reducible assumption))⟩
  · have hi := tdiv_in ha h1
    have hw : wrap64 (a.tdiv b) = a.tdiv b := IntWalk.wrap64_in _ hi
    have n1 : (b == -1) = false := by simp [h1]
    rw [fit, if_pos hi, ← hw]
    clear ha hb hS hi hw h1
    obtain ⟨c1, f1⟩ : ∃ c, (a == -9223372036854775808) = c := ⟨_, rfl⟩
    cases c1
    all_goals
      go_enter Try.func14, Try.ntmps14
      go_wp2
      go_returns
      exact ⟨rett rfl rfl, by (repeat' (first | with_reducible exact Ext.refl _ | with_reducible refine Ext.ext ?_ _ | with_reducible refine Ext.alloc ?_ _ | with_reducible refine Ext.drew ?_ | with_reducible refine Ext.drewN ?_ _ | with_reducible assumption))⟩
theorem of_8 {a b : Int} (ha : In64 a) (hb : In64 b) : OfAt 8 a b (twoS 8 a b) := by
  intro w
  by_cases h0 : b = 0
  · subst h0
    rw [show twoS 8 a 0 = (0, 3) from rfl]
    clear ha hb
    go_enter Try.func14, Try.ntmps14
    go_wp2
    go_returns
    exact ⟨rett rfl rfl, by (repeat' (first | with_reducible exact Ext.refl _ | with_reducible refine Ext.ext ?_ _ | with_reducible refine Ext.alloc ?_ _ | with_reducible refine Ext.drew ?_ | with_reducible refine Ext.drewN ?_ _ | with_reducible assumption))⟩
  have hS : twoS 8 a b = (a.tmod b, 0) := by unfold twoS; rw [if_neg (by decide), if_neg (by decide), if_neg (by decide), if_neg (by decide), if_pos rfl, if_neg h0]
  have hin := (twoS_in 8 a b ha).1
  rw [hS] at hin ⊢
  have n0 : (b == 0) = false := by simp [h0]
  by_cases h1 : b = -1
  · subst h1
    rw [show a.tmod (-1) = 0 by rw [Int.tmod_neg, Int.tmod_one]]
    clear ha hb h0 hS hin
    go_enter Try.func14, Try.ntmps14
    go_wp2
    go_returns
    exact ⟨rett rfl rfl, by (repeat' (first | with_reducible exact Ext.refl _ | with_reducible refine Ext.ext ?_ _ | with_reducible refine Ext.alloc ?_ _ | with_reducible refine Ext.drew ?_ | with_reducible refine Ext.drewN ?_ _ | with_reducible assumption))⟩
  · have hw : wrap64 (a.tmod b) = a.tmod b := IntWalk.wrap64_in _ hin
    have n1 : (b != -1) = true := by simp [h1]
    clear ha hb hS hin
    go_enter Try.func14, Try.ntmps14
    go_wp2
    go_returns
    exact ⟨rett rfl (by simp [hw]), by (repeat' (first | with_reducible exact Ext.refl _ | with_reducible refine Ext.ext ?_ _ | with_reducible refine Ext.alloc ?_ _ | with_reducible refine Ext.drew ?_ | with_reducible refine Ext.drewN ?_ _ | with_reducible assumption))⟩
theorem of_any (op a b : Int) (h1 : 4 ≤ op) (h2 : op ≤ 10) (ha : In64 a) (hb : In64 b) : OfAt op a b (twoS op a b) := by
  obtain rfl | rfl | rfl | rfl | rfl | rfl | rfl : op = 4 ∨ op = 5 ∨ op = 6 ∨ op = 7 ∨ op = 8 ∨ op = 9 ∨ op = 10 := by omega
  · exact of_4 ha hb
  · exact of_5 ha hb
  · exact of_6 ha hb
  · exact of_7 ha hb
  · exact of_8 ha hb
  · exact of_9
  · exact of_10
end Go.Proofs.Ytddckdlkopohhaa

/- The walk of HopSteps. -/
import Derived.Test.YtfdgeomomafnbaaHopSteps
import Derived.Test.YtfdgeomomafnbaaLaw02d
namespace Go.Proofs.Ytfdgeomomafnbaa
set_option linter.unusedSimpArgs false
set_option linter.unusedVariables false
open Go.RowKit

theorem made_ok (d l : Int) (h : 1 ≤ d ∧ d ≤ 4) (hl : l = 0 ∨ (l = 1 ∧ d ≤ 3)) : madeR ⟨d, d, l, 0, 0, 0, 0, 0, 0, 0, 0⟩ = (⟨d, d, l, 0, 0, 0, 0, 0, 0, 0, 0⟩, true) := by
  obtain rfl | rfl | rfl | rfl : d = 1 ∨ d = 2 ∨ d = 3 ∨ d = 4 := by omega
  all_goals rcases hl with rfl | ⟨rfl, hl⟩ <;> first | rfl | (exfalso; omega)
theorem made_lv (d : Int) (h : 2 ≤ d ∧ d ≤ 4) : madeR ⟨d, d - 1, 0, 0, 0, 0, 0, 0, 0, 0, 0⟩ = (⟨d, d - 1, 0, 0, 0, 0, 0, 0, 0, 0, 0⟩, true) := by
  obtain rfl | rfl | rfl : d = 2 ∨ d = 3 ∨ d = 4 := by omega
  all_goals rfl
theorem made_out (h : Hp) (hh : ¬ (1 ≤ h.f ∧ h.f ≤ 4 ∧ 1 ≤ h.k + h.l ∧ h.k + h.l ≤ 4)) : madeR h = (hz, false) := by
  have : hopB h = false := by
    rw [← Bool.not_eq_true]
    intro hb
    have := hopB_bd hb
    omega
  simp [madeR, this]
theorem ap_hz (t : Tm) : apR hz t = tz ∧ apOk hz t = false := by
  have h : apOk hz t = false := by
    have : hopB hz = false := by decide
    simp [apOk, this]
  exact ⟨by unfold apR; rw [h]; rfl, h⟩

set_option synthInstance.maxHeartbeats 400000 in
set_option maxRecDepth 100000 in
set_option maxHeartbeats 40000000 in
theorem walk_HopSteps (d : Int) (hd : -9223372036854775808 ≤ d ∧ d ≤ 9223372036854775807) (t : Tm) (w : World) :
    Calls Try.prog 11 #[.int .i64 d, .agg #[.int .i64 t.d, .int .i64 t.a, .int .i64 t.b, .int .i64 t.c, .int .i64 t.e]] w fun r w' => r = .returned (.bool true) ∧ Ext w w' := by
  have AW := Lib.hid (fun w => awake02 w)
  obtain ⟨d1, d2⟩ := hd
  have AZ : Hid (∀ w, Calls Try.prog 32 #[.agg #[.int .i64 0, .int .i64 0, .int .i64 0, .int .i64 0, .int .i64 0, .int .i64 0, .int .i64 0, .int .i64 0, .int .i64 0, .int .i64 0, .int .i64 0], .agg #[.int .i64 t.d, .int .i64 t.a, .int .i64 t.b, .int .i64 t.c, .int .i64 t.e]] w fun o w' => o = .returned (.tuple #[.agg #[.int .i64 0, .int .i64 0, .int .i64 0, .int .i64 0, .int .i64 0], .bool false]) ∧ Ext w w') := Lib.hid (fun w => ap_as (x := hz) (ap_hz t).1 (ap_hz t).2 w)
  generalize hrt : rightB t = vr
  have RT : Hid (∀ w, Calls Try.prog 25 #[.agg #[.int .i64 t.d, .int .i64 t.a, .int .i64 t.b, .int .i64 t.c, .int .i64 t.e]] w fun o w' => o = .returned (.bool vr) ∧ Ext w w') := Lib.hid (fun w => by
    have h := right_any t.d t.a t.b t.c t.e w
    rw [show rightB ⟨t.d, t.a, t.b, t.c, t.e⟩ = vr from hrt] at h
    exact h)
  have HRT := Lib.hid hrt
  clear hrt
  go_enter Try.func11, Try.ntmps11
  go_wp2_with (first | (go_at_call 30; refine (AW.out _).mono ?_; rintro r w' ⟨rfl, x, rfl⟩))
  go_loopw [5] (fun i wr => ∃ k : Nat, k ≤ 4 ∧ i = .int .i64 k ∧ Ext (w.alloc (.cells #[.int .i64 t.d, .int .i64 t.a, .int .i64 t.b, .int .i64 t.c, .int .i64 t.e] 29)) wr) (fun i _ => 4 - (intOf i).toNat)
  case atStart => exact ⟨0, by omega, rfl, by (repeat' (first | with_reducible exact Ext.refl _ | with_reducible refine Ext.ext ?_ _ | with_reducible refine Ext.alloc ?_ _ | with_reducible refine Ext.drew ?_ | with_reducible refine Ext.drewN ?_ _ | with_reducible assumption))⟩
  case round =>
    obtain ⟨k, hk, rfl, z, rfl⟩ := hrel
    by_cases hlt : k < 4
    · obtain rfl | rfl | rfl | rfl : k = 0 ∨ k = 1 ∨ k = 2 ∨ k = 3 := by omega
      · rcases (show d < 1 ∨ (1 ≤ d ∧ d ≤ 4) ∨ 4 < d by omega) with hr | ⟨r1, r2⟩ | hr
        · have hdummy : True := trivial
          have S1 : Hid (∀ w, Calls Try.prog 39 #[.int .i64 d] w fun o w' => o = .returned (.tuple #[.agg #[.int .i64 0, .int .i64 0, .int .i64 0, .int .i64 0, .int .i64 0, .int .i64 0, .int .i64 0, .int .i64 0, .int .i64 0, .int .i64 0, .int .i64 0], .bool false]) ∧ Ext w w') := Lib.hid (fun w => by
            have h := hopSame_any d w
            rw [made_out _ (by simp only; omega)] at h
            exact h)
          as_aux_lemma =>
            go_wp2_with (first | (go_at_call 39; refine (S1.out _).mono ?_; rintro o w' ⟨rfl, y1, rfl⟩))
            go_region_with (go_at_call 25; refine (RT.out _).mono ?_; rintro o w' ⟨rfl, y2, rfl⟩)
            all_goals
              go_wp2_with (first | (go_at_call 32; ((with_reducible refine (AZ.out _).mono ?_); rintro o w' ⟨rfl, x, rfl⟩)))
              go_roundw
              case rel => exact ⟨1, by omega, by go_num, by (repeat' (first | with_reducible exact Ext.refl _ | with_reducible refine Ext.ext ?_ _ | with_reducible refine Ext.alloc ?_ _ | with_reducible refine Ext.drew ?_ | with_reducible refine Ext.drewN ?_ _ | with_reducible assumption))⟩
              case measure => simp [intOf]
        · have hb4 : True := trivial
          have s1 := fun w => hopSame_any d w
          rw [made_ok d 0 ⟨r1, r2⟩ (.inl rfl)] at s1
          have S1 := Lib.hid s1
          clear s1
          by_cases ht : t.d = d
          · obtain ⟨q1, q2⟩ := st_same t (by omega)
            rw [ht] at q1 q2
            have htb : (t.d == d) = true := by simpa using ht
            generalize e1 : apR ⟨d, d, 0, 0, 0, 0, 0, 0, 0, 0, 0⟩ t = x at q2
            rw [HRT.out] at q1 q2
            cases vr
            · have A1 : Hid (∀ w, Calls Try.prog 32 #[.agg #[.int .i64 d, .int .i64 d, .int .i64 0, .int .i64 0, .int .i64 0, .int .i64 0, .int .i64 0, .int .i64 0, .int .i64 0, .int .i64 0, .int .i64 0], .agg #[.int .i64 t.d, .int .i64 t.a, .int .i64 t.b, .int .i64 t.c, .int .i64 t.e]] w fun o w' => o = .returned (.tuple #[.agg #[.int .i64 x.d, .int .i64 x.a, .int .i64 x.b, .int .i64 x.c, .int .i64 x.e], .bool false]) ∧ Ext w w') := Lib.hid (fun w => ap_as (x := ⟨d, d, 0, 0, 0, 0, 0, 0, 0, 0, 0⟩) e1 q1 w)
              clear ht e1 q1 q2
              as_aux_lemma =>
                go_wp2_with (first | (go_at_call 39; refine (S1.out _).mono ?_; rintro o w' ⟨rfl, y1, rfl⟩))
                go_region_with (go_at_call 25; refine (RT.out _).mono ?_; rintro o w' ⟨rfl, y2, rfl⟩)
                all_goals
                  go_wp2_with (first | (go_at_call 32; ((with_reducible refine (A1.out _).mono ?_); rintro o w' ⟨rfl, x, rfl⟩)))
                  go_roundw
                  case rel => exact ⟨1, by omega, by go_num, by (repeat' (first | with_reducible exact Ext.refl _ | with_reducible refine Ext.ext ?_ _ | with_reducible refine Ext.alloc ?_ _ | with_reducible refine Ext.drew ?_ | with_reducible refine Ext.drewN ?_ _ | with_reducible assumption))⟩
                  case measure => simp [intOf]
            · have A1 : Hid (∀ w, Calls Try.prog 32 #[.agg #[.int .i64 d, .int .i64 d, .int .i64 0, .int .i64 0, .int .i64 0, .int .i64 0, .int .i64 0, .int .i64 0, .int .i64 0, .int .i64 0, .int .i64 0], .agg #[.int .i64 t.d, .int .i64 t.a, .int .i64 t.b, .int .i64 t.c, .int .i64 t.e]] w fun o w' => o = .returned (.tuple #[.agg #[.int .i64 t.d, .int .i64 t.a, .int .i64 t.b, .int .i64 t.c, .int .i64 t.e], .bool true]) ∧ Ext w w') := Lib.hid (fun w => ap_as (x := ⟨d, d, 0, 0, 0, 0, 0, 0, 0, 0, 0⟩) (e1.trans (q2 rfl)) q1 w)
              clear ht e1 q1 q2
              as_aux_lemma =>
                go_wp2_with (first | (go_at_call 39; refine (S1.out _).mono ?_; rintro o w' ⟨rfl, y1, rfl⟩))
                go_region_with (go_at_call 25; refine (RT.out _).mono ?_; rintro o w' ⟨rfl, y2, rfl⟩)
                all_goals
                  go_wp2_with (first | (go_at_call 32; ((with_reducible refine (A1.out _).mono ?_); rintro o w' ⟨rfl, x, rfl⟩)))
                  go_roundw
                  case rel => exact ⟨1, by omega, by go_num, by (repeat' (first | with_reducible exact Ext.refl _ | with_reducible refine Ext.ext ?_ _ | with_reducible refine Ext.alloc ?_ _ | with_reducible refine Ext.drew ?_ | with_reducible refine Ext.drewN ?_ _ | with_reducible assumption))⟩
                  case measure => simp [intOf]
          · have htb : (t.d == d) = false := by simpa using ht
            generalize e1 : apR ⟨d, d, 0, 0, 0, 0, 0, 0, 0, 0, 0⟩ t = x
            generalize e2 : apOk ⟨d, d, 0, 0, 0, 0, 0, 0, 0, 0, 0⟩ t = v
            have A1 : Hid (∀ w, Calls Try.prog 32 #[.agg #[.int .i64 d, .int .i64 d, .int .i64 0, .int .i64 0, .int .i64 0, .int .i64 0, .int .i64 0, .int .i64 0, .int .i64 0, .int .i64 0, .int .i64 0], .agg #[.int .i64 t.d, .int .i64 t.a, .int .i64 t.b, .int .i64 t.c, .int .i64 t.e]] w fun o w' => o = .returned (.tuple #[.agg #[.int .i64 x.d, .int .i64 x.a, .int .i64 x.b, .int .i64 x.c, .int .i64 x.e], .bool v]) ∧ Ext w w') := Lib.hid (fun w => ap_as (x := ⟨d, d, 0, 0, 0, 0, 0, 0, 0, 0, 0⟩) e1 e2 w)
            clear ht e1 e2
            as_aux_lemma =>
              go_wp2_with (first | (go_at_call 39; refine (S1.out _).mono ?_; rintro o w' ⟨rfl, y1, rfl⟩))
              go_region_with (go_at_call 25; refine (RT.out _).mono ?_; rintro o w' ⟨rfl, y2, rfl⟩)
              all_goals
                go_wp2_with (first | (go_at_call 32; ((with_reducible refine (A1.out _).mono ?_); rintro o w' ⟨rfl, x, rfl⟩)))
                go_roundw
                case rel => exact ⟨1, by omega, by go_num, by (repeat' (first | with_reducible exact Ext.refl _ | with_reducible refine Ext.ext ?_ _ | with_reducible refine Ext.alloc ?_ _ | with_reducible refine Ext.drew ?_ | with_reducible refine Ext.drewN ?_ _ | with_reducible assumption))⟩
                case measure => simp [intOf]
        · have hdummy : True := trivial
          have S1 : Hid (∀ w, Calls Try.prog 39 #[.int .i64 d] w fun o w' => o = .returned (.tuple #[.agg #[.int .i64 0, .int .i64 0, .int .i64 0, .int .i64 0, .int .i64 0, .int .i64 0, .int .i64 0, .int .i64 0, .int .i64 0, .int .i64 0, .int .i64 0], .bool false]) ∧ Ext w w') := Lib.hid (fun w => by
            have h := hopSame_any d w
            rw [made_out _ (by simp only; omega)] at h
            exact h)
          as_aux_lemma =>
            go_wp2_with (first | (go_at_call 39; refine (S1.out _).mono ?_; rintro o w' ⟨rfl, y1, rfl⟩))
            go_region_with (go_at_call 25; refine (RT.out _).mono ?_; rintro o w' ⟨rfl, y2, rfl⟩)
            all_goals
              go_wp2_with (first | (go_at_call 32; ((with_reducible refine (AZ.out _).mono ?_); rintro o w' ⟨rfl, x, rfl⟩)))
              go_roundw
              case rel => exact ⟨1, by omega, by go_num, by (repeat' (first | with_reducible exact Ext.refl _ | with_reducible refine Ext.ext ?_ _ | with_reducible refine Ext.alloc ?_ _ | with_reducible refine Ext.drew ?_ | with_reducible refine Ext.drewN ?_ _ | with_reducible assumption))⟩
              case measure => simp [intOf]
      · rcases hw : enterR t with ⟨W, ve⟩
        have RE : Hid (∀ w, Calls Try.prog 17 #[.agg #[.int .i64 t.d, .int .i64 t.a, .int .i64 t.b, .int .i64 t.c, .int .i64 t.e]] w fun o w' => o = .returned (.tuple #[.agg #[.int .i64 W.d, .int .i64 W.a, .int .i64 W.b, .int .i64 W.c, .int .i64 W.e], .bool ve]) ∧ Ext w w') := Lib.hid (fun w => by
          have h := enter_any t.d t.a t.b t.c t.e w
          rw [show enterR ⟨t.d, t.a, t.b, t.c, t.e⟩ = (W, ve) from hw] at h
          exact h)
        have HW := Lib.hid hw
        clear hw
        rcases (show d < 1 ∨ (1 ≤ d ∧ d ≤ 3) ∨ 3 < d by omega) with hr | ⟨r1, r2⟩ | hr
        · have hdummy : True := trivial
          have S1 : Hid (∀ w, Calls Try.prog 40 #[.int .i64 d] w fun o w' => o = .returned (.tuple #[.agg #[.int .i64 0, .int .i64 0, .int .i64 0, .int .i64 0, .int .i64 0, .int .i64 0, .int .i64 0, .int .i64 0, .int .i64 0, .int .i64 0, .int .i64 0], .bool false]) ∧ Ext w w') := Lib.hid (fun w => by
            have h := hopEnter_any d w
            rw [made_out _ (by simp only; omega)] at h
            exact h)
          as_aux_lemma =>
            go_wp2_with (first | (go_at_call 40; refine (S1.out _).mono ?_; rintro o w' ⟨rfl, y1, rfl⟩) | (go_at_call 17; refine (RE.out _).mono ?_; rintro o w' ⟨rfl, y2, rfl⟩) | (go_at_call 32; ((with_reducible refine (AZ.out _).mono ?_); rintro o w' ⟨rfl, x, rfl⟩)))
            go_roundw
            case rel => exact ⟨2, by omega, by go_num, by (repeat' (first | with_reducible exact Ext.refl _ | with_reducible refine Ext.ext ?_ _ | with_reducible refine Ext.alloc ?_ _ | with_reducible refine Ext.drew ?_ | with_reducible refine Ext.drewN ?_ _ | with_reducible assumption))⟩
            case measure => simp [intOf]
        · have hb4 : (d == 4) = false := by simp; omega
          have s1 := fun w => hopEnter_any d w
          rw [made_ok d 1 ⟨r1, by omega⟩ (.inr ⟨rfl, r2⟩)] at s1
          have S1 := Lib.hid s1
          clear s1
          by_cases ht : t.d = d
          · obtain ⟨q1, q2⟩ := st_enter t (by omega)
            rw [ht] at q1 q2
            have htb : (t.d == d) = true := by simpa using ht
            generalize e1 : apR ⟨d, d, 1, 0, 0, 0, 0, 0, 0, 0, 0⟩ t = x at q2
            have hw := HW.out
            unfold enterR at hw
            cases hv : enterOk t
            · rw [hv] at q1 hw
              obtain ⟨-, rfl⟩ := Prod.mk.inj hw
              have A1 : Hid (∀ w, Calls Try.prog 32 #[.agg #[.int .i64 d, .int .i64 d, .int .i64 1, .int .i64 0, .int .i64 0, .int .i64 0, .int .i64 0, .int .i64 0, .int .i64 0, .int .i64 0, .int .i64 0], .agg #[.int .i64 t.d, .int .i64 t.a, .int .i64 t.b, .int .i64 t.c, .int .i64 t.e]] w fun o w' => o = .returned (.tuple #[.agg #[.int .i64 x.d, .int .i64 x.a, .int .i64 x.b, .int .i64 x.c, .int .i64 x.e], .bool false]) ∧ Ext w w') := Lib.hid (fun w => ap_as (x := ⟨d, d, 1, 0, 0, 0, 0, 0, 0, 0, 0⟩) e1 q1 w)
              clear ht e1 q1 q2 hw hv HW
              as_aux_lemma =>
                go_wp2_with (first | (go_at_call 40; refine (S1.out _).mono ?_; rintro o w' ⟨rfl, y1, rfl⟩) | (go_at_call 17; refine (RE.out _).mono ?_; rintro o w' ⟨rfl, y2, rfl⟩) | (go_at_call 32; ((with_reducible refine (A1.out _).mono ?_); rintro o w' ⟨rfl, x, rfl⟩)))
                go_roundw
                case rel => exact ⟨2, by omega, by go_num, by (repeat' (first | with_reducible exact Ext.refl _ | with_reducible refine Ext.ext ?_ _ | with_reducible refine Ext.alloc ?_ _ | with_reducible refine Ext.drew ?_ | with_reducible refine Ext.drewN ?_ _ | with_reducible assumption))⟩
                case measure => simp [intOf]
            · rw [hv] at q1 hw
              obtain ⟨hW, rfl⟩ := Prod.mk.inj hw
              have A1 : Hid (∀ w, Calls Try.prog 32 #[.agg #[.int .i64 d, .int .i64 d, .int .i64 1, .int .i64 0, .int .i64 0, .int .i64 0, .int .i64 0, .int .i64 0, .int .i64 0, .int .i64 0, .int .i64 0], .agg #[.int .i64 t.d, .int .i64 t.a, .int .i64 t.b, .int .i64 t.c, .int .i64 t.e]] w fun o w' => o = .returned (.tuple #[.agg #[.int .i64 W.d, .int .i64 W.a, .int .i64 W.b, .int .i64 W.c, .int .i64 W.e], .bool true]) ∧ Ext w w') := Lib.hid (fun w => ap_as (x := ⟨d, d, 1, 0, 0, 0, 0, 0, 0, 0, 0⟩) (e1.trans ((q2 hv).trans hW)) q1 w)
              clear ht e1 q1 q2 hw hv HW hW
              as_aux_lemma =>
                go_wp2_with (first | (go_at_call 40; refine (S1.out _).mono ?_; rintro o w' ⟨rfl, y1, rfl⟩) | (go_at_call 17; refine (RE.out _).mono ?_; rintro o w' ⟨rfl, y2, rfl⟩) | (go_at_call 32; ((with_reducible refine (A1.out _).mono ?_); rintro o w' ⟨rfl, x, rfl⟩)))
                go_roundw
                case rel => exact ⟨2, by omega, by go_num, by (repeat' (first | with_reducible exact Ext.refl _ | with_reducible refine Ext.ext ?_ _ | with_reducible refine Ext.alloc ?_ _ | with_reducible refine Ext.drew ?_ | with_reducible refine Ext.drewN ?_ _ | with_reducible assumption))⟩
                case measure => simp [intOf]
          · have htb : (t.d == d) = false := by simpa using ht
            generalize e1 : apR ⟨d, d, 1, 0, 0, 0, 0, 0, 0, 0, 0⟩ t = x
            generalize e2 : apOk ⟨d, d, 1, 0, 0, 0, 0, 0, 0, 0, 0⟩ t = v
            have A1 : Hid (∀ w, Calls Try.prog 32 #[.agg #[.int .i64 d, .int .i64 d, .int .i64 1, .int .i64 0, .int .i64 0, .int .i64 0, .int .i64 0, .int .i64 0, .int .i64 0, .int .i64 0, .int .i64 0], .agg #[.int .i64 t.d, .int .i64 t.a, .int .i64 t.b, .int .i64 t.c, .int .i64 t.e]] w fun o w' => o = .returned (.tuple #[.agg #[.int .i64 x.d, .int .i64 x.a, .int .i64 x.b, .int .i64 x.c, .int .i64 x.e], .bool v]) ∧ Ext w w') := Lib.hid (fun w => ap_as (x := ⟨d, d, 1, 0, 0, 0, 0, 0, 0, 0, 0⟩) e1 e2 w)
            clear ht e1 e2
            as_aux_lemma =>
              go_wp2_with (first | (go_at_call 40; refine (S1.out _).mono ?_; rintro o w' ⟨rfl, y1, rfl⟩) | (go_at_call 17; refine (RE.out _).mono ?_; rintro o w' ⟨rfl, y2, rfl⟩) | (go_at_call 32; ((with_reducible refine (A1.out _).mono ?_); rintro o w' ⟨rfl, x, rfl⟩)))
              go_roundw
              case rel => exact ⟨2, by omega, by go_num, by (repeat' (first | with_reducible exact Ext.refl _ | with_reducible refine Ext.ext ?_ _ | with_reducible refine Ext.alloc ?_ _ | with_reducible refine Ext.drew ?_ | with_reducible refine Ext.drewN ?_ _ | with_reducible assumption))⟩
              case measure => simp [intOf]
        · have hdummy : True := trivial
          have S1 : Hid (∀ w, Calls Try.prog 40 #[.int .i64 d] w fun o w' => o = .returned (.tuple #[.agg #[.int .i64 0, .int .i64 0, .int .i64 0, .int .i64 0, .int .i64 0, .int .i64 0, .int .i64 0, .int .i64 0, .int .i64 0, .int .i64 0, .int .i64 0], .bool false]) ∧ Ext w w') := Lib.hid (fun w => by
            have h := hopEnter_any d w
            rw [made_out _ (by simp only; omega)] at h
            exact h)
          rcases (show d = 4 ∨ 4 < d by omega) with rfl | hr4
          · skip
            as_aux_lemma =>
              go_wp2_with (first | (go_at_call 40; refine (S1.out _).mono ?_; rintro o w' ⟨rfl, y1, rfl⟩) | (go_at_call 17; refine (RE.out _).mono ?_; rintro o w' ⟨rfl, y2, rfl⟩) | (go_at_call 32; ((with_reducible refine (AZ.out _).mono ?_); rintro o w' ⟨rfl, x, rfl⟩)))
              go_roundw
              case rel => exact ⟨2, by omega, by go_num, by (repeat' (first | with_reducible exact Ext.refl _ | with_reducible refine Ext.ext ?_ _ | with_reducible refine Ext.alloc ?_ _ | with_reducible refine Ext.drew ?_ | with_reducible refine Ext.drewN ?_ _ | with_reducible assumption))⟩
              case measure => simp [intOf]
          · skip
            as_aux_lemma =>
              go_wp2_with (first | (go_at_call 40; refine (S1.out _).mono ?_; rintro o w' ⟨rfl, y1, rfl⟩) | (go_at_call 17; refine (RE.out _).mono ?_; rintro o w' ⟨rfl, y2, rfl⟩) | (go_at_call 32; ((with_reducible refine (AZ.out _).mono ?_); rintro o w' ⟨rfl, x, rfl⟩)))
              go_roundw
              case rel => exact ⟨2, by omega, by go_num, by (repeat' (first | with_reducible exact Ext.refl _ | with_reducible refine Ext.ext ?_ _ | with_reducible refine Ext.alloc ?_ _ | with_reducible refine Ext.drew ?_ | with_reducible refine Ext.drewN ?_ _ | with_reducible assumption))⟩
              case measure => simp [intOf]
      · rcases hw : leaveR t with ⟨W, ve⟩
        have RE : Hid (∀ w, Calls Try.prog 19 #[.agg #[.int .i64 t.d, .int .i64 t.a, .int .i64 t.b, .int .i64 t.c, .int .i64 t.e]] w fun o w' => o = .returned (.tuple #[.agg #[.int .i64 W.d, .int .i64 W.a, .int .i64 W.b, .int .i64 W.c, .int .i64 W.e], .bool ve]) ∧ Ext w w') := Lib.hid (fun w => by
          have h := leave_any t.d t.a t.b t.c t.e w
          rw [show leaveR ⟨t.d, t.a, t.b, t.c, t.e⟩ = (W, ve) from hw] at h
          exact h)
        have HW := Lib.hid hw
        clear hw
        rcases (show d < 2 ∨ (2 ≤ d ∧ d ≤ 4) ∨ 4 < d by omega) with hr | ⟨r1, r2⟩ | hr
        · have hdummy : True := trivial
          have S1 : Hid (∀ w, Calls Try.prog 41 #[.int .i64 d] w fun o w' => o = .returned (.tuple #[.agg #[.int .i64 0, .int .i64 0, .int .i64 0, .int .i64 0, .int .i64 0, .int .i64 0, .int .i64 0, .int .i64 0, .int .i64 0, .int .i64 0, .int .i64 0], .bool false]) ∧ Ext w w') := Lib.hid (fun w => by
            have h := hopLeave_no d w hr
            exact h)
          rcases (show d = 1 ∨ d < 1 by omega) with rfl | hr4
          · skip
            as_aux_lemma =>
              go_wp2_with (first | (go_at_call 41; refine (S1.out _).mono ?_; rintro o w' ⟨rfl, y1, rfl⟩) | (go_at_call 19; refine (RE.out _).mono ?_; rintro o w' ⟨rfl, y2, rfl⟩) | (go_at_call 32; ((with_reducible refine (AZ.out _).mono ?_); rintro o w' ⟨rfl, x, rfl⟩)))
              go_roundw
              case rel => exact ⟨3, by omega, by go_num, by (repeat' (first | with_reducible exact Ext.refl _ | with_reducible refine Ext.ext ?_ _ | with_reducible refine Ext.alloc ?_ _ | with_reducible refine Ext.drew ?_ | with_reducible refine Ext.drewN ?_ _ | with_reducible assumption))⟩
              case measure => simp [intOf]
          · skip
            as_aux_lemma =>
              go_wp2_with (first | (go_at_call 41; refine (S1.out _).mono ?_; rintro o w' ⟨rfl, y1, rfl⟩) | (go_at_call 19; refine (RE.out _).mono ?_; rintro o w' ⟨rfl, y2, rfl⟩) | (go_at_call 32; ((with_reducible refine (AZ.out _).mono ?_); rintro o w' ⟨rfl, x, rfl⟩)))
              go_roundw
              case rel => exact ⟨3, by omega, by go_num, by (repeat' (first | with_reducible exact Ext.refl _ | with_reducible refine Ext.ext ?_ _ | with_reducible refine Ext.alloc ?_ _ | with_reducible refine Ext.drew ?_ | with_reducible refine Ext.drewN ?_ _ | with_reducible assumption))⟩
              case measure => simp [intOf]
        · have hb4 : True := trivial
          have hb1 : (d == 1) = false := by simp; omega
          have s1 := fun w => hopLeave_yes d w r1 d2
          rw [made_lv d ⟨r1, r2⟩] at s1
          have S1 := Lib.hid s1
          clear s1
          by_cases ht : t.d = d
          · obtain ⟨q1, q2⟩ := st_leave t (by omega)
            rw [ht] at q1 q2
            have htb : (t.d == d) = true := by simpa using ht
            generalize e1 : apR ⟨d, d - 1, 0, 0, 0, 0, 0, 0, 0, 0, 0⟩ t = x at q2
            have hw := HW.out
            unfold leaveR at hw
            cases hv : leaveOk t
            · rw [hv] at q1 hw
              obtain ⟨-, rfl⟩ := Prod.mk.inj hw
              have A1 : Hid (∀ w, Calls Try.prog 32 #[.agg #[.int .i64 d, .int .i64 (d - 1), .int .i64 0, .int .i64 0, .int .i64 0, .int .i64 0, .int .i64 0, .int .i64 0, .int .i64 0, .int .i64 0, .int .i64 0], .agg #[.int .i64 t.d, .int .i64 t.a, .int .i64 t.b, .int .i64 t.c, .int .i64 t.e]] w fun o w' => o = .returned (.tuple #[.agg #[.int .i64 x.d, .int .i64 x.a, .int .i64 x.b, .int .i64 x.c, .int .i64 x.e], .bool false]) ∧ Ext w w') := Lib.hid (fun w => ap_as (x := ⟨d, d - 1, 0, 0, 0, 0, 0, 0, 0, 0, 0⟩) e1 q1 w)
              clear ht e1 q1 q2 hw hv HW
              as_aux_lemma =>
                go_wp2_with (first | (go_at_call 41; refine (S1.out _).mono ?_; rintro o w' ⟨rfl, y1, rfl⟩) | (go_at_call 19; refine (RE.out _).mono ?_; rintro o w' ⟨rfl, y2, rfl⟩) | (go_at_call 32; ((with_reducible refine (A1.out _).mono ?_); rintro o w' ⟨rfl, x, rfl⟩)))
                go_roundw
                case rel => exact ⟨3, by omega, by go_num, by (repeat' (first | with_reducible exact Ext.refl _ | with_reducible refine Ext.ext ?_ _ | with_reducible refine Ext.alloc ?_ _ | with_reducible refine Ext.drew ?_ | with_reducible refine Ext.drewN ?_ _ | with_reducible assumption))⟩
                case measure => simp [intOf]
            · rw [hv] at q1 hw
              obtain ⟨hW, rfl⟩ := Prod.mk.inj hw
              have A1 : Hid (∀ w, Calls Try.prog 32 #[.agg #[.int .i64 d, .int .i64 (d - 1), .int .i64 0, .int .i64 0, .int .i64 0, .int .i64 0, .int .i64 0, .int .i64 0, .int .i64 0, .int .i64 0, .int .i64 0], .agg #[.int .i64 t.d, .int .i64 t.a, .int .i64 t.b, .int .i64 t.c, .int .i64 t.e]] w fun o w' => o = .returned (.tuple #[.agg #[.int .i64 W.d, .int .i64 W.a, .int .i64 W.b, .int .i64 W.c, .int .i64 W.e], .bool true]) ∧ Ext w w') := Lib.hid (fun w => ap_as (x := ⟨d, d - 1, 0, 0, 0, 0, 0, 0, 0, 0, 0⟩) (e1.trans ((q2 hv).trans hW)) q1 w)
              clear ht e1 q1 q2 hw hv HW hW
              as_aux_lemma =>
                go_wp2_with (first | (go_at_call 41; refine (S1.out _).mono ?_; rintro o w' ⟨rfl, y1, rfl⟩) | (go_at_call 19; refine (RE.out _).mono ?_; rintro o w' ⟨rfl, y2, rfl⟩) | (go_at_call 32; ((with_reducible refine (A1.out _).mono ?_); rintro o w' ⟨rfl, x, rfl⟩)))
                go_roundw
                case rel => exact ⟨3, by omega, by go_num, by (repeat' (first | with_reducible exact Ext.refl _ | with_reducible refine Ext.ext ?_ _ | with_reducible refine Ext.alloc ?_ _ | with_reducible refine Ext.drew ?_ | with_reducible refine Ext.drewN ?_ _ | with_reducible assumption))⟩
                case measure => simp [intOf]
          · have htb : (t.d == d) = false := by simpa using ht
            generalize e1 : apR ⟨d, d - 1, 0, 0, 0, 0, 0, 0, 0, 0, 0⟩ t = x
            generalize e2 : apOk ⟨d, d - 1, 0, 0, 0, 0, 0, 0, 0, 0, 0⟩ t = v
            have A1 : Hid (∀ w, Calls Try.prog 32 #[.agg #[.int .i64 d, .int .i64 (d - 1), .int .i64 0, .int .i64 0, .int .i64 0, .int .i64 0, .int .i64 0, .int .i64 0, .int .i64 0, .int .i64 0, .int .i64 0], .agg #[.int .i64 t.d, .int .i64 t.a, .int .i64 t.b, .int .i64 t.c, .int .i64 t.e]] w fun o w' => o = .returned (.tuple #[.agg #[.int .i64 x.d, .int .i64 x.a, .int .i64 x.b, .int .i64 x.c, .int .i64 x.e], .bool v]) ∧ Ext w w') := Lib.hid (fun w => ap_as (x := ⟨d, d - 1, 0, 0, 0, 0, 0, 0, 0, 0, 0⟩) e1 e2 w)
            clear ht e1 e2
            as_aux_lemma =>
              go_wp2_with (first | (go_at_call 41; refine (S1.out _).mono ?_; rintro o w' ⟨rfl, y1, rfl⟩) | (go_at_call 19; refine (RE.out _).mono ?_; rintro o w' ⟨rfl, y2, rfl⟩) | (go_at_call 32; ((with_reducible refine (A1.out _).mono ?_); rintro o w' ⟨rfl, x, rfl⟩)))
              go_roundw
              case rel => exact ⟨3, by omega, by go_num, by (repeat' (first | with_reducible exact Ext.refl _ | with_reducible refine Ext.ext ?_ _ | with_reducible refine Ext.alloc ?_ _ | with_reducible refine Ext.drew ?_ | with_reducible refine Ext.drewN ?_ _ | with_reducible assumption))⟩
              case measure => simp [intOf]
        · have hdummy : True := trivial
          have S1 : Hid (∀ w, Calls Try.prog 41 #[.int .i64 d] w fun o w' => o = .returned (.tuple #[.agg #[.int .i64 0, .int .i64 0, .int .i64 0, .int .i64 0, .int .i64 0, .int .i64 0, .int .i64 0, .int .i64 0, .int .i64 0, .int .i64 0, .int .i64 0], .bool false]) ∧ Ext w w') := Lib.hid (fun w => by
            have h := hopLeave_yes d w (by omega) d2
            rw [made_out _ (by simp only; omega)] at h
            exact h)
          as_aux_lemma =>
            go_wp2_with (first | (go_at_call 41; refine (S1.out _).mono ?_; rintro o w' ⟨rfl, y1, rfl⟩) | (go_at_call 19; refine (RE.out _).mono ?_; rintro o w' ⟨rfl, y2, rfl⟩) | (go_at_call 32; ((with_reducible refine (AZ.out _).mono ?_); rintro o w' ⟨rfl, x, rfl⟩)))
            go_roundw
            case rel => exact ⟨3, by omega, by go_num, by (repeat' (first | with_reducible exact Ext.refl _ | with_reducible refine Ext.ext ?_ _ | with_reducible refine Ext.alloc ?_ _ | with_reducible refine Ext.drew ?_ | with_reducible refine Ext.drewN ?_ _ | with_reducible assumption))⟩
            case measure => simp [intOf]
      · rcases hw : nextR t with ⟨W, ve⟩
        have RE : Hid (∀ w, Calls Try.prog 20 #[.agg #[.int .i64 t.d, .int .i64 t.a, .int .i64 t.b, .int .i64 t.c, .int .i64 t.e]] w fun o w' => o = .returned (.tuple #[.agg #[.int .i64 W.d, .int .i64 W.a, .int .i64 W.b, .int .i64 W.c, .int .i64 W.e], .bool ve]) ∧ Ext w w') := Lib.hid (fun w => by
          have h := next_any t.d t.a t.b t.c t.e w
          rw [show nextR ⟨t.d, t.a, t.b, t.c, t.e⟩ = (W, ve) from hw] at h
          exact h)
        have HW := Lib.hid hw
        clear hw
        rcases (show d < 1 ∨ (1 ≤ d ∧ d ≤ 4) ∨ 4 < d by omega) with hr | ⟨r1, r2⟩ | hr
        · have hdummy : True := trivial
          have hb : hopB ⟨d, d, 0, 0, 0, 0, 0, 0, 0, 0, 0⟩ = false := by rw [← Bool.not_eq_true]; intro hb; have := hopB_bd hb; simp only at this; omega
          have S1 : Hid (∀ w, Calls Try.prog 42 #[.int .i64 d] w fun o w' => o = .returned (.tuple #[.agg #[.int .i64 0, .int .i64 0, .int .i64 0, .int .i64 0, .int .i64 0, .int .i64 0, .int .i64 0, .int .i64 0, .int .i64 0, .int .i64 0, .int .i64 0], .bool false]) ∧ Ext w w') := Lib.hid (fun w => by
            have h := hopNext_no d w hb
            exact h)
          clear hb
          as_aux_lemma =>
            go_wp2_with (first | (go_at_call 42; refine (S1.out _).mono ?_; rintro o w' ⟨rfl, y1, rfl⟩) | (go_at_call 20; refine (RE.out _).mono ?_; rintro o w' ⟨rfl, y2, rfl⟩) | (go_at_call 32; ((with_reducible refine (AZ.out _).mono ?_); rintro o w' ⟨rfl, x, rfl⟩)))
            go_roundw
            case rel => exact ⟨4, by omega, by go_num, by (repeat' (first | with_reducible exact Ext.refl _ | with_reducible refine Ext.ext ?_ _ | with_reducible refine Ext.alloc ?_ _ | with_reducible refine Ext.drew ?_ | with_reducible refine Ext.drewN ?_ _ | with_reducible assumption))⟩
            case measure => simp [intOf]
        · have hb4 : True := trivial
          have s1 := fun w => hopNext_yes d w (by omega)
          have S1 := Lib.hid s1
          clear s1
          by_cases ht : t.d = d
          · obtain ⟨q1, q2⟩ := st_next t (by omega)
            rw [ht] at q1 q2
            have htb : (t.d == d) = true := by simpa using ht
            generalize e1 : apR (nextH d) t = x at q2
            have hw := HW.out
            unfold nextR at hw
            cases hv : nextOk t
            · rw [hv] at q1 hw
              obtain ⟨-, rfl⟩ := Prod.mk.inj hw
              have A1 : Hid (∀ w, Calls Try.prog 32 #[.agg #[.int .i64 ((nextH d).f), .int .i64 ((nextH d).k), .int .i64 ((nextH d).l), .int .i64 ((nextH d).a), .int .i64 ((nextH d).b), .int .i64 ((nextH d).c), .int .i64 ((nextH d).e), .int .i64 ((nextH d).p), .int .i64 ((nextH d).q), .int .i64 ((nextH d).r), .int .i64 ((nextH d).s)], .agg #[.int .i64 t.d, .int .i64 t.a, .int .i64 t.b, .int .i64 t.c, .int .i64 t.e]] w fun o w' => o = .returned (.tuple #[.agg #[.int .i64 x.d, .int .i64 x.a, .int .i64 x.b, .int .i64 x.c, .int .i64 x.e], .bool false]) ∧ Ext w w') := Lib.hid (fun w => ap_as (x := (nextH d)) e1 q1 w)
              clear ht e1 q1 q2 hw hv HW
              as_aux_lemma =>
                go_wp2_with (first | (go_at_call 42; refine (S1.out _).mono ?_; rintro o w' ⟨rfl, y1, rfl⟩) | (go_at_call 20; refine (RE.out _).mono ?_; rintro o w' ⟨rfl, y2, rfl⟩) | (go_at_call 32; ((with_reducible refine (A1.out _).mono ?_); rintro o w' ⟨rfl, x, rfl⟩)))
                go_roundw
                case rel => exact ⟨4, by omega, by go_num, by (repeat' (first | with_reducible exact Ext.refl _ | with_reducible refine Ext.ext ?_ _ | with_reducible refine Ext.alloc ?_ _ | with_reducible refine Ext.drew ?_ | with_reducible refine Ext.drewN ?_ _ | with_reducible assumption))⟩
                case measure => simp [intOf]
            · rw [hv] at q1 hw
              obtain ⟨hW, rfl⟩ := Prod.mk.inj hw
              have A1 : Hid (∀ w, Calls Try.prog 32 #[.agg #[.int .i64 ((nextH d).f), .int .i64 ((nextH d).k), .int .i64 ((nextH d).l), .int .i64 ((nextH d).a), .int .i64 ((nextH d).b), .int .i64 ((nextH d).c), .int .i64 ((nextH d).e), .int .i64 ((nextH d).p), .int .i64 ((nextH d).q), .int .i64 ((nextH d).r), .int .i64 ((nextH d).s)], .agg #[.int .i64 t.d, .int .i64 t.a, .int .i64 t.b, .int .i64 t.c, .int .i64 t.e]] w fun o w' => o = .returned (.tuple #[.agg #[.int .i64 W.d, .int .i64 W.a, .int .i64 W.b, .int .i64 W.c, .int .i64 W.e], .bool true]) ∧ Ext w w') := Lib.hid (fun w => ap_as (x := (nextH d)) (e1.trans ((q2 hv).trans hW)) q1 w)
              clear ht e1 q1 q2 hw hv HW hW
              as_aux_lemma =>
                go_wp2_with (first | (go_at_call 42; refine (S1.out _).mono ?_; rintro o w' ⟨rfl, y1, rfl⟩) | (go_at_call 20; refine (RE.out _).mono ?_; rintro o w' ⟨rfl, y2, rfl⟩) | (go_at_call 32; ((with_reducible refine (A1.out _).mono ?_); rintro o w' ⟨rfl, x, rfl⟩)))
                go_roundw
                case rel => exact ⟨4, by omega, by go_num, by (repeat' (first | with_reducible exact Ext.refl _ | with_reducible refine Ext.ext ?_ _ | with_reducible refine Ext.alloc ?_ _ | with_reducible refine Ext.drew ?_ | with_reducible refine Ext.drewN ?_ _ | with_reducible assumption))⟩
                case measure => simp [intOf]
          · have htb : (t.d == d) = false := by simpa using ht
            generalize e1 : apR (nextH d) t = x
            generalize e2 : apOk (nextH d) t = v
            have A1 : Hid (∀ w, Calls Try.prog 32 #[.agg #[.int .i64 ((nextH d).f), .int .i64 ((nextH d).k), .int .i64 ((nextH d).l), .int .i64 ((nextH d).a), .int .i64 ((nextH d).b), .int .i64 ((nextH d).c), .int .i64 ((nextH d).e), .int .i64 ((nextH d).p), .int .i64 ((nextH d).q), .int .i64 ((nextH d).r), .int .i64 ((nextH d).s)], .agg #[.int .i64 t.d, .int .i64 t.a, .int .i64 t.b, .int .i64 t.c, .int .i64 t.e]] w fun o w' => o = .returned (.tuple #[.agg #[.int .i64 x.d, .int .i64 x.a, .int .i64 x.b, .int .i64 x.c, .int .i64 x.e], .bool v]) ∧ Ext w w') := Lib.hid (fun w => ap_as (x := (nextH d)) e1 e2 w)
            clear ht e1 e2
            as_aux_lemma =>
              go_wp2_with (first | (go_at_call 42; refine (S1.out _).mono ?_; rintro o w' ⟨rfl, y1, rfl⟩) | (go_at_call 20; refine (RE.out _).mono ?_; rintro o w' ⟨rfl, y2, rfl⟩) | (go_at_call 32; ((with_reducible refine (A1.out _).mono ?_); rintro o w' ⟨rfl, x, rfl⟩)))
              go_roundw
              case rel => exact ⟨4, by omega, by go_num, by (repeat' (first | with_reducible exact Ext.refl _ | with_reducible refine Ext.ext ?_ _ | with_reducible refine Ext.alloc ?_ _ | with_reducible refine Ext.drew ?_ | with_reducible refine Ext.drewN ?_ _ | with_reducible assumption))⟩
              case measure => simp [intOf]
        · have hdummy : True := trivial
          have hb : hopB ⟨d, d, 0, 0, 0, 0, 0, 0, 0, 0, 0⟩ = false := by rw [← Bool.not_eq_true]; intro hb; have := hopB_bd hb; simp only at this; omega
          have S1 : Hid (∀ w, Calls Try.prog 42 #[.int .i64 d] w fun o w' => o = .returned (.tuple #[.agg #[.int .i64 0, .int .i64 0, .int .i64 0, .int .i64 0, .int .i64 0, .int .i64 0, .int .i64 0, .int .i64 0, .int .i64 0, .int .i64 0, .int .i64 0], .bool false]) ∧ Ext w w') := Lib.hid (fun w => by
            have h := hopNext_no d w hb
            exact h)
          clear hb
          as_aux_lemma =>
            go_wp2_with (first | (go_at_call 42; refine (S1.out _).mono ?_; rintro o w' ⟨rfl, y1, rfl⟩) | (go_at_call 20; refine (RE.out _).mono ?_; rintro o w' ⟨rfl, y2, rfl⟩) | (go_at_call 32; ((with_reducible refine (AZ.out _).mono ?_); rintro o w' ⟨rfl, x, rfl⟩)))
            go_roundw
            case rel => exact ⟨4, by omega, by go_num, by (repeat' (first | with_reducible exact Ext.refl _ | with_reducible refine Ext.ext ?_ _ | with_reducible refine Ext.alloc ?_ _ | with_reducible refine Ext.drew ?_ | with_reducible refine Ext.drewN ?_ _ | with_reducible assumption))⟩
            case measure => simp [intOf]
    · obtain rfl : k = 4 := by omega
      go_wp2
      go_returns
      exact ⟨retb rfl rfl, by (repeat' (first | with_reducible exact Ext.refl _ | with_reducible refine Ext.ext ?_ _ | with_reducible refine Ext.alloc ?_ _ | with_reducible refine Ext.drew ?_ | with_reducible refine Ext.drewN ?_ _ | with_reducible assumption))⟩
end Go.Proofs.Ytfdgeomomafnbaa

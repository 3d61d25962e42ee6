/- The walk of HopRight. -/
import Derived.Test.YtfdgeomomafnbaaRef2g
import Derived.Test.YtfdgeomomafnbaaRef2d
import Derived.Test.YtfdgeomomafnbaaLaw02d
namespace Go.Proofs.Ytfdgeomomafnbaa
set_option linter.unusedSimpArgs false
set_option linter.unusedVariables false
open Go.RowKit

theorem hright_as {x : Hp} {v : Bool} (h : hopB x = v) (w : World) : Calls Try.prog 35 #[hv x] w fun o w' => o = .returned (.bool v) ∧ Ext w w' := by
  subst h
  exact hopRight_any x.f x.k x.l x.a x.b x.c x.e x.p x.q x.r x.s w
theorem leH_no {a b : Hp} (h : hopB a = false ∨ hopB b = false) : leHB a b = false := by
  rw [← Bool.not_eq_true, leH_iff]
  rintro ⟨h1, h2, -⟩
  rw [h1, h2] at h
  rcases h with h | h <;> cases h
theorem rap_as {x : Hp} {t T : Tm} {v : Bool} (h1 : apR x t = T) (h2 : apOk x t = v) (w : World) : Calls Try.prog 34 #[hv x, tv t] w fun o w' => o = .returned (.tuple #[tv T, .bool v]) ∧ Ext w w' := by
  subst h1 h2
  exact ref2_ap_any x t w
theorem rth_as {x y z : Hp} {v : Bool} (h1 : thR x y = z) (h2 : thOk x y = v) (w : World) : Calls Try.prog 36 #[hv x, hv y] w fun o w' => o = .returned (.tuple #[hv z, .bool v]) ∧ Ext w w' := by
  subst h1 h2
  exact ref2_th_any x y w
theorem rle_as {x y : Hp} {v : Bool} (h : leHB x y = v) (w : World) : Calls Try.prog 38 #[hv x, hv y] w fun o w' => o = .returned (.bool v) ∧ Ext w w' := by
  subst h
  exact ref2_le_any x y w

set_option synthInstance.maxHeartbeats 400000 in
set_option maxRecDepth 100000 in
set_option maxHeartbeats 8000000 in
theorem walk_HopRight (x y : Hp) (t : Tm) (w : World) :
    Calls Try.prog 10 #[.agg #[.int .i64 x.f, .int .i64 x.k, .int .i64 x.l, .int .i64 x.a, .int .i64 x.b, .int .i64 x.c, .int .i64 x.e, .int .i64 x.p, .int .i64 x.q, .int .i64 x.r, .int .i64 x.s], .agg #[.int .i64 y.f, .int .i64 y.k, .int .i64 y.l, .int .i64 y.a, .int .i64 y.b, .int .i64 y.c, .int .i64 y.e, .int .i64 y.p, .int .i64 y.q, .int .i64 y.r, .int .i64 y.s], .agg #[.int .i64 t.d, .int .i64 t.a, .int .i64 t.b, .int .i64 t.c, .int .i64 t.e]] w fun r w' => r = .returned (.bool true) ∧ Ext w w' := by
  have AW := Lib.hid (fun w => awake02 w)
  generalize e1 : apR x t = T
  generalize e2 : apOk x t = v1
  generalize e3 : thR x y = H
  generalize e4 : thOk x y = v2
  generalize e5 : leHB x y = v3
  generalize e6 : hopB x = v4
  have A1 : Hid (∀ w, Calls Try.prog 32 #[.agg #[.int .i64 x.f, .int .i64 x.k, .int .i64 x.l, .int .i64 x.a, .int .i64 x.b, .int .i64 x.c, .int .i64 x.e, .int .i64 x.p, .int .i64 x.q, .int .i64 x.r, .int .i64 x.s], .agg #[.int .i64 t.d, .int .i64 t.a, .int .i64 t.b, .int .i64 t.c, .int .i64 t.e]] w fun o w' => o = .returned (.tuple #[.agg #[.int .i64 T.d, .int .i64 T.a, .int .i64 T.b, .int .i64 T.c, .int .i64 T.e], .bool v1]) ∧ Ext w w') := Lib.hid (fun w => ap_as e1 e2 w)
  have A2 : Hid (∀ w, Calls Try.prog 34 #[.agg #[.int .i64 x.f, .int .i64 x.k, .int .i64 x.l, .int .i64 x.a, .int .i64 x.b, .int .i64 x.c, .int .i64 x.e, .int .i64 x.p, .int .i64 x.q, .int .i64 x.r, .int .i64 x.s], .agg #[.int .i64 t.d, .int .i64 t.a, .int .i64 t.b, .int .i64 t.c, .int .i64 t.e]] w fun o w' => o = .returned (.tuple #[.agg #[.int .i64 T.d, .int .i64 T.a, .int .i64 T.b, .int .i64 T.c, .int .i64 T.e], .bool v1]) ∧ Ext w w') := Lib.hid (fun w => rap_as e1 e2 w)
  have B1 : Hid (∀ w, Calls Try.prog 31 #[.agg #[.int .i64 x.f, .int .i64 x.k, .int .i64 x.l, .int .i64 x.a, .int .i64 x.b, .int .i64 x.c, .int .i64 x.e, .int .i64 x.p, .int .i64 x.q, .int .i64 x.r, .int .i64 x.s], .agg #[.int .i64 y.f, .int .i64 y.k, .int .i64 y.l, .int .i64 y.a, .int .i64 y.b, .int .i64 y.c, .int .i64 y.e, .int .i64 y.p, .int .i64 y.q, .int .i64 y.r, .int .i64 y.s]] w fun o w' => o = .returned (.tuple #[.agg #[.int .i64 H.f, .int .i64 H.k, .int .i64 H.l, .int .i64 H.a, .int .i64 H.b, .int .i64 H.c, .int .i64 H.e, .int .i64 H.p, .int .i64 H.q, .int .i64 H.r, .int .i64 H.s], .bool v2]) ∧ Ext w w') := Lib.hid (fun w => th_as e3 e4 w)
  have B2 : Hid (∀ w, Calls Try.prog 36 #[.agg #[.int .i64 x.f, .int .i64 x.k, .int .i64 x.l, .int .i64 x.a, .int .i64 x.b, .int .i64 x.c, .int .i64 x.e, .int .i64 x.p, .int .i64 x.q, .int .i64 x.r, .int .i64 x.s], .agg #[.int .i64 y.f, .int .i64 y.k, .int .i64 y.l, .int .i64 y.a, .int .i64 y.b, .int .i64 y.c, .int .i64 y.e, .int .i64 y.p, .int .i64 y.q, .int .i64 y.r, .int .i64 y.s]] w fun o w' => o = .returned (.tuple #[.agg #[.int .i64 H.f, .int .i64 H.k, .int .i64 H.l, .int .i64 H.a, .int .i64 H.b, .int .i64 H.c, .int .i64 H.e, .int .i64 H.p, .int .i64 H.q, .int .i64 H.r, .int .i64 H.s], .bool v2]) ∧ Ext w w') := Lib.hid (fun w => rth_as e3 e4 w)
  have L1 : Hid (∀ w, Calls Try.prog 37 #[.agg #[.int .i64 x.f, .int .i64 x.k, .int .i64 x.l, .int .i64 x.a, .int .i64 x.b, .int .i64 x.c, .int .i64 x.e, .int .i64 x.p, .int .i64 x.q, .int .i64 x.r, .int .i64 x.s], .agg #[.int .i64 y.f, .int .i64 y.k, .int .i64 y.l, .int .i64 y.a, .int .i64 y.b, .int .i64 y.c, .int .i64 y.e, .int .i64 y.p, .int .i64 y.q, .int .i64 y.r, .int .i64 y.s]] w fun o w' => o = .returned (.bool v3) ∧ Ext w w') := Lib.hid (fun w => hle_as e5 w)
  have L2 : Hid (∀ w, Calls Try.prog 38 #[.agg #[.int .i64 x.f, .int .i64 x.k, .int .i64 x.l, .int .i64 x.a, .int .i64 x.b, .int .i64 x.c, .int .i64 x.e, .int .i64 x.p, .int .i64 x.q, .int .i64 x.r, .int .i64 x.s], .agg #[.int .i64 y.f, .int .i64 y.k, .int .i64 y.l, .int .i64 y.a, .int .i64 y.b, .int .i64 y.c, .int .i64 y.e, .int .i64 y.p, .int .i64 y.q, .int .i64 y.r, .int .i64 y.s]] w fun o w' => o = .returned (.bool v3) ∧ Ext w w') := Lib.hid (fun w => rle_as e5 w)
  have R1 : Hid (∀ w, Calls Try.prog 35 #[.agg #[.int .i64 x.f, .int .i64 x.k, .int .i64 x.l, .int .i64 x.a, .int .i64 x.b, .int .i64 x.c, .int .i64 x.e, .int .i64 x.p, .int .i64 x.q, .int .i64 x.r, .int .i64 x.s]] w fun o w' => o = .returned (.bool v4) ∧ Ext w w') := Lib.hid (fun w => hright_as e6 w)
  clear e1 e2 e3 e4 e5
  cases v4
  · have P1 := parts_no' e6
    clear e6
    as_aux_lemma =>
      go_enter Try.func10, Try.ntmps10
      go_wp2_with (first | (go_at_call 30; refine (AW.out _).mono ?_; rintro r w' ⟨rfl, x, rfl⟩) | (go_at_call 33; (with_reducible refine (P1.out _).mono ?_); rintro r w' ⟨rfl, ⟨z, rfl⟩⟩) | (go_at_call 32; ((with_reducible refine (A1.out _).mono ?_); rintro o w' ⟨rfl, x, rfl⟩)) | (go_at_call 34; (with_reducible refine (A2.out _).mono ?_); rintro r w' ⟨rfl, z, rfl⟩) | (go_at_call 35; ((with_reducible refine (R1.out _).mono ?_); rintro o w' ⟨rfl, x, rfl⟩)) | (go_at_call 31; ((with_reducible refine (B1.out _).mono ?_); rintro o w' ⟨rfl, x, rfl⟩)) | (go_at_call 36; (with_reducible refine (B2.out _).mono ?_); rintro r w' ⟨rfl, z, rfl⟩))
      refine wp_region_ext (by kernel_rfl) (by kernel_rfl) ?_
      repeat (go_big_quiet_step (first | (go_at_call 37; (apply quiet_of; (with_reducible exact L1.out _); (intro w' hx; obtain ⟨z, rfl⟩ := hx; (try simp only [ext_ext, add_assoc]); exact ⟨_, rfl⟩))) | (go_at_call 38; (apply quiet_of; (with_reducible exact L2.out _); (intro w' hx; obtain ⟨z, rfl⟩ := hx; (try simp only [ext_ext, add_assoc]); exact ⟨_, rfl⟩)))))
      refine wpQuiet_nil ?_
      intro xK
      go_wp2
      go_returns
      exact ⟨retb rfl (by simp), by (repeat' (first | with_reducible exact Ext.refl _ | with_reducible refine Ext.ext ?_ _ | with_reducible refine Ext.alloc ?_ _ | with_reducible refine Ext.drew ?_ | with_reducible refine Ext.drewN ?_ _ | with_reducible assumption))⟩
  · obtain ⟨n, hn⟩ := Int.eq_ofNat_of_zero_le (show 0 ≤ x.k + x.l by have := hopB_bd e6; omega)
    have P1 := parts_yes' e6 hn
    clear e6 hn
    as_aux_lemma =>
      go_enter Try.func10, Try.ntmps10
      go_wp2_with (first | (go_at_call 30; refine (AW.out _).mono ?_; rintro r w' ⟨rfl, x, rfl⟩) | (go_at_call 33; (with_reducible refine (P1.out _).mono ?_); rintro r w' ⟨g1, c1, z, rfl, rfl, -⟩) | (go_at_call 32; ((with_reducible refine (A1.out _).mono ?_); rintro o w' ⟨rfl, x, rfl⟩)) | (go_at_call 34; (with_reducible refine (A2.out _).mono ?_); rintro r w' ⟨rfl, z, rfl⟩) | (go_at_call 35; ((with_reducible refine (R1.out _).mono ?_); rintro o w' ⟨rfl, x, rfl⟩)) | (go_at_call 31; ((with_reducible refine (B1.out _).mono ?_); rintro o w' ⟨rfl, x, rfl⟩)) | (go_at_call 36; (with_reducible refine (B2.out _).mono ?_); rintro r w' ⟨rfl, z, rfl⟩))
      refine wp_region_ext (by kernel_rfl) (by kernel_rfl) ?_
      repeat (go_big_quiet_step (first | (go_at_call 37; (apply quiet_of; (with_reducible exact L1.out _); (intro w' hx; obtain ⟨z, rfl⟩ := hx; (try simp only [ext_ext, add_assoc]); exact ⟨_, rfl⟩))) | (go_at_call 38; (apply quiet_of; (with_reducible exact L2.out _); (intro w' hx; obtain ⟨z, rfl⟩ := hx; (try simp only [ext_ext, add_assoc]); exact ⟨_, rfl⟩)))))
      refine wpQuiet_nil ?_
      intro xK
      go_wp2
      go_returns
      exact ⟨retb rfl (by simp), by (repeat' (first | with_reducible exact Ext.refl _ | with_reducible refine Ext.ext ?_ _ | with_reducible refine Ext.alloc ?_ _ | with_reducible refine Ext.drew ?_ | with_reducible refine Ext.drewN ?_ _ | with_reducible assumption))⟩
end Go.Proofs.Ytfdgeomomafnbaa

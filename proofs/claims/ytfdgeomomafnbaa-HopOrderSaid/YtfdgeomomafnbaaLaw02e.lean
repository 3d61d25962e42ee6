/- The walk of HopOrder. -/
import Derived.Test.YtfdgeomomafnbaaLaw02d
namespace Go.Proofs.Ytfdgeomomafnbaa
set_option linter.unusedSimpArgs false
set_option linter.unusedVariables false
open Go.RowKit

theorem hright_as {x : Hp} {v : Bool} (h : hopB x = v) (w : World) : Calls Try.prog 35 #[hv x] w fun o w' => o = .returned (.bool v) ∧ Ext w w' := by
  subst h
  exact hopRight_any x.f x.k x.l x.a x.b x.c x.e x.p x.q x.r x.s w
theorem leH_no {a b : Hp} (h : hopB a = false ∨ hopB b = false) : leHB a b = false := by
  rw [← Bool.not_eq_true, leH_iff]
  rintro ⟨h1, h2, -⟩
  rw [h1, h2] at h
  rcases h with h | h <;> cases h

set_option synthInstance.maxHeartbeats 400000 in
set_option maxRecDepth 100000 in
set_option maxHeartbeats 40000000 in
theorem walk_HopOrder (a b : Hp) (t : Tm) (w : World) :
    Calls Try.prog 12 #[.agg #[.int .i64 a.f, .int .i64 a.k, .int .i64 a.l, .int .i64 a.a, .int .i64 a.b, .int .i64 a.c, .int .i64 a.e, .int .i64 a.p, .int .i64 a.q, .int .i64 a.r, .int .i64 a.s], .agg #[.int .i64 b.f, .int .i64 b.k, .int .i64 b.l, .int .i64 b.a, .int .i64 b.b, .int .i64 b.c, .int .i64 b.e, .int .i64 b.p, .int .i64 b.q, .int .i64 b.r, .int .i64 b.s], .agg #[.int .i64 t.d, .int .i64 t.a, .int .i64 t.b, .int .i64 t.c, .int .i64 t.e]] w fun r w' => r = .returned (.bool true) ∧ Ext w w' := by
  have AW := Lib.hid (fun w => awake02 w)
  cases ha : hopB a
  · have hl := leH_no (b := b) (.inl ha)
    have R1 : Hid (∀ w, Calls Try.prog 35 #[.agg #[.int .i64 a.f, .int .i64 a.k, .int .i64 a.l, .int .i64 a.a, .int .i64 a.b, .int .i64 a.c, .int .i64 a.e, .int .i64 a.p, .int .i64 a.q, .int .i64 a.r, .int .i64 a.s]] w fun o w' => o = .returned (.bool false) ∧ Ext w w') := Lib.hid (fun w => hright_as ha w)
    have L1 : Hid (∀ w, Calls Try.prog 37 #[.agg #[.int .i64 a.f, .int .i64 a.k, .int .i64 a.l, .int .i64 a.a, .int .i64 a.b, .int .i64 a.c, .int .i64 a.e, .int .i64 a.p, .int .i64 a.q, .int .i64 a.r, .int .i64 a.s], .agg #[.int .i64 b.f, .int .i64 b.k, .int .i64 b.l, .int .i64 b.a, .int .i64 b.b, .int .i64 b.c, .int .i64 b.e, .int .i64 b.p, .int .i64 b.q, .int .i64 b.r, .int .i64 b.s]] w fun o w' => o = .returned (.bool false) ∧ Ext w w') := Lib.hid (fun w => hle_as hl w)
    clear ha hl
    go_enter Try.func12, Try.ntmps12
    go_wp2_with (first | (go_at_call 30; refine (AW.out _).mono ?_; rintro r w' ⟨rfl, x, rfl⟩) | (go_at_call 35; ((with_reducible refine (R1.out _).mono ?_); rintro o w' ⟨rfl, x, rfl⟩)) | (go_at_call 37; ((with_reducible refine (L1.out _).mono ?_); rintro o w' ⟨rfl, x, rfl⟩)))
    go_returns
    exact ⟨retb rfl rfl, by (repeat' (first | with_reducible exact Ext.refl _ | with_reducible refine Ext.ext ?_ _ | with_reducible refine Ext.alloc ?_ _ | with_reducible refine Ext.drew ?_ | with_reducible refine Ext.drewN ?_ _ | with_reducible assumption))⟩
  · cases hb : hopB b
    · have hl := leH_no (a := a) (.inr hb)
      have R1 : Hid (∀ w, Calls Try.prog 35 #[.agg #[.int .i64 a.f, .int .i64 a.k, .int .i64 a.l, .int .i64 a.a, .int .i64 a.b, .int .i64 a.c, .int .i64 a.e, .int .i64 a.p, .int .i64 a.q, .int .i64 a.r, .int .i64 a.s]] w fun o w' => o = .returned (.bool true) ∧ Ext w w') := Lib.hid (fun w => hright_as ha w)
      have R2 : Hid (∀ w, Calls Try.prog 35 #[.agg #[.int .i64 b.f, .int .i64 b.k, .int .i64 b.l, .int .i64 b.a, .int .i64 b.b, .int .i64 b.c, .int .i64 b.e, .int .i64 b.p, .int .i64 b.q, .int .i64 b.r, .int .i64 b.s]] w fun o w' => o = .returned (.bool false) ∧ Ext w w') := Lib.hid (fun w => hright_as hb w)
      have L1 : Hid (∀ w, Calls Try.prog 37 #[.agg #[.int .i64 a.f, .int .i64 a.k, .int .i64 a.l, .int .i64 a.a, .int .i64 a.b, .int .i64 a.c, .int .i64 a.e, .int .i64 a.p, .int .i64 a.q, .int .i64 a.r, .int .i64 a.s], .agg #[.int .i64 b.f, .int .i64 b.k, .int .i64 b.l, .int .i64 b.a, .int .i64 b.b, .int .i64 b.c, .int .i64 b.e, .int .i64 b.p, .int .i64 b.q, .int .i64 b.r, .int .i64 b.s]] w fun o w' => o = .returned (.bool false) ∧ Ext w w') := Lib.hid (fun w => hle_as hl w)
      clear ha hl hb
      go_enter Try.func12, Try.ntmps12
      go_wp2_with (first | (go_at_call 30; refine (AW.out _).mono ?_; rintro r w' ⟨rfl, x, rfl⟩) | (go_at_call 35; ((with_reducible refine (R1.out _).mono ?_); rintro o w' ⟨rfl, x, rfl⟩)) | (go_at_call 35; ((with_reducible refine (R2.out _).mono ?_); rintro o w' ⟨rfl, x, rfl⟩)) | (go_at_call 37; ((with_reducible refine (L1.out _).mono ?_); rintro o w' ⟨rfl, x, rfl⟩)))
      go_returns
      exact ⟨retb rfl rfl, by (repeat' (first | with_reducible exact Ext.refl _ | with_reducible refine Ext.ext ?_ _ | with_reducible refine Ext.alloc ?_ _ | with_reducible refine Ext.drew ?_ | with_reducible refine Ext.drewN ?_ _ | with_reducible assumption))⟩
    · have R1 : Hid (∀ w, Calls Try.prog 35 #[.agg #[.int .i64 a.f, .int .i64 a.k, .int .i64 a.l, .int .i64 a.a, .int .i64 a.b, .int .i64 a.c, .int .i64 a.e, .int .i64 a.p, .int .i64 a.q, .int .i64 a.r, .int .i64 a.s]] w fun o w' => o = .returned (.bool true) ∧ Ext w w') := Lib.hid (fun w => hright_as ha w)
      have R2 : Hid (∀ w, Calls Try.prog 35 #[.agg #[.int .i64 b.f, .int .i64 b.k, .int .i64 b.l, .int .i64 b.a, .int .i64 b.b, .int .i64 b.c, .int .i64 b.e, .int .i64 b.p, .int .i64 b.q, .int .i64 b.r, .int .i64 b.s]] w fun o w' => o = .returned (.bool true) ∧ Ext w w') := Lib.hid (fun w => hright_as hb w)
      have HA := Lib.hid ha
      have HB := Lib.hid hb
      have hord := fun h h1 h2 => ap_order (a := a) (b := b) (t := t) h h1 h2
      generalize hl : leHB a b = v1 at hord
      have L1 : Hid (∀ w, Calls Try.prog 37 #[.agg #[.int .i64 a.f, .int .i64 a.k, .int .i64 a.l, .int .i64 a.a, .int .i64 a.b, .int .i64 a.c, .int .i64 a.e, .int .i64 a.p, .int .i64 a.q, .int .i64 a.r, .int .i64 a.s], .agg #[.int .i64 b.f, .int .i64 b.k, .int .i64 b.l, .int .i64 b.a, .int .i64 b.b, .int .i64 b.c, .int .i64 b.e, .int .i64 b.p, .int .i64 b.q, .int .i64 b.r, .int .i64 b.s]] w fun o w' => o = .returned (.bool v1) ∧ Ext w w') := Lib.hid (fun w => hle_as hl w)
      have HL := Lib.hid hl
      generalize hx : apR a t = x at hord
      generalize hy : apR b t = y at hord
      generalize hx' : apOk a t = v2 at hord
      generalize hy' : apOk b t = v3 at hord
      have A1 : Hid (∀ w, Calls Try.prog 32 #[.agg #[.int .i64 a.f, .int .i64 a.k, .int .i64 a.l, .int .i64 a.a, .int .i64 a.b, .int .i64 a.c, .int .i64 a.e, .int .i64 a.p, .int .i64 a.q, .int .i64 a.r, .int .i64 a.s], .agg #[.int .i64 t.d, .int .i64 t.a, .int .i64 t.b, .int .i64 t.c, .int .i64 t.e]] w fun o w' => o = .returned (.tuple #[.agg #[.int .i64 x.d, .int .i64 x.a, .int .i64 x.b, .int .i64 x.c, .int .i64 x.e], .bool v2]) ∧ Ext w w') := Lib.hid (fun w => ap_as hx hx' w)
      have A2 : Hid (∀ w, Calls Try.prog 32 #[.agg #[.int .i64 b.f, .int .i64 b.k, .int .i64 b.l, .int .i64 b.a, .int .i64 b.b, .int .i64 b.c, .int .i64 b.e, .int .i64 b.p, .int .i64 b.q, .int .i64 b.r, .int .i64 b.s], .agg #[.int .i64 t.d, .int .i64 t.a, .int .i64 t.b, .int .i64 t.c, .int .i64 t.e]] w fun o w' => o = .returned (.tuple #[.agg #[.int .i64 y.d, .int .i64 y.a, .int .i64 y.b, .int .i64 y.c, .int .i64 y.e], .bool v3]) ∧ Ext w w') := Lib.hid (fun w => ap_as hy hy' w)
      have HORD := Lib.hid hord
      clear ha hb hl hx hy hx' hy' hord
      go_enter Try.func12, Try.ntmps12
      go_upto_region 7 with (first | (go_at_call 30; refine (AW.out _).mono ?_; rintro r w' ⟨rfl, xa, rfl⟩) | (go_at_call 35; ((with_reducible refine (R1.out _).mono ?_); rintro o w' ⟨rfl, xb, rfl⟩)) | (go_at_call 35; ((with_reducible refine (R2.out _).mono ?_); rintro o w' ⟨rfl, xc, rfl⟩)) | (go_at_call 32; ((with_reducible refine (A1.out _).mono ?_); rintro o w' ⟨rfl, xd, rfl⟩)) | (go_at_call 32; ((with_reducible refine (A2.out _).mono ?_); rintro o w' ⟨rfl, xe, rfl⟩)))
      go_cut [52] (fun s wx => s = .bool false ∧ Ext ((ext ((ext (((w.alloc (.cells #[.int .i64 a.f, .int .i64 a.k, .int .i64 a.l, .int .i64 a.a, .int .i64 a.b, .int .i64 a.c, .int .i64 a.e, .int .i64 a.p, .int .i64 a.q, .int .i64 a.r, .int .i64 a.s] 43)).alloc (.cells #[.int .i64 b.f, .int .i64 b.k, .int .i64 b.l, .int .i64 b.a, .int .i64 b.b, .int .i64 b.c, .int .i64 b.e, .int .i64 b.p, .int .i64 b.q, .int .i64 b.r, .int .i64 b.s] 43)).alloc (.cells #[.int .i64 t.d, .int .i64 t.a, .int .i64 t.b, .int .i64 t.c, .int .i64 t.e] 29)) (xa.add (xb.add (xc.add xd)))).alloc (.cells #[.int .i64 x.d, .int .i64 x.a, .int .i64 x.b, .int .i64 x.c, .int .i64 x.e] 29)) xe).alloc (.cells #[.int .i64 y.d, .int .i64 y.a, .int .i64 y.b, .int .i64 y.c, .int .i64 y.e] 29)) wx)
      case first =>
        cases v1
        · go_wp2_with (first | (go_at_call 37; ((with_reducible refine (L1.out _).mono ?_); rintro o w' ⟨rfl, x, rfl⟩)))
          go_meet
          exact ⟨rfl, by (repeat' (first | with_reducible exact Ext.refl _ | with_reducible refine Ext.ext ?_ _ | with_reducible refine Ext.alloc ?_ _ | with_reducible refine Ext.drew ?_ | with_reducible refine Ext.drewN ?_ _ | with_reducible assumption))⟩
        · cases v2
          · go_wp2_with (first | (go_at_call 37; ((with_reducible refine (L1.out _).mono ?_); rintro o w' ⟨rfl, x, rfl⟩)))
            go_meet
            exact ⟨rfl, by (repeat' (first | with_reducible exact Ext.refl _ | with_reducible refine Ext.ext ?_ _ | with_reducible refine Ext.alloc ?_ _ | with_reducible refine Ext.drew ?_ | with_reducible refine Ext.drewN ?_ _ | with_reducible assumption))⟩
          · cases v3
            · go_wp2_with (first | (go_at_call 37; ((with_reducible refine (L1.out _).mono ?_); rintro o w' ⟨rfl, x, rfl⟩)))
              go_meet
              exact ⟨rfl, by (repeat' (first | with_reducible exact Ext.refl _ | with_reducible refine Ext.ext ?_ _ | with_reducible refine Ext.alloc ?_ _ | with_reducible refine Ext.drew ?_ | with_reducible refine Ext.drewN ?_ _ | with_reducible assumption))⟩
            · have hl := HORD.out rfl rfl rfl
              have L3 : Hid (∀ w, Calls Try.prog 21 #[.agg #[.int .i64 x.d, .int .i64 x.a, .int .i64 x.b, .int .i64 x.c, .int .i64 x.e], .agg #[.int .i64 y.d, .int .i64 y.a, .int .i64 y.b, .int .i64 y.c, .int .i64 y.e]] w fun o w' => o = .returned (.bool true) ∧ Ext w w') := Lib.hid (fun w => tle_as hl w)
              clear hl
              go_wp2_with (first | (go_at_call 37; ((with_reducible refine (L1.out _).mono ?_); rintro o w' ⟨rfl, x, rfl⟩)) | (go_at_call 21; ((with_reducible refine (L3.out _).mono ?_); rintro o w' ⟨rfl, x, rfl⟩)))
              go_meet
              exact ⟨rfl, by (repeat' (first | with_reducible exact Ext.refl _ | with_reducible refine Ext.ext ?_ _ | with_reducible refine Ext.alloc ?_ _ | with_reducible refine Ext.drew ?_ | with_reducible refine Ext.drewN ?_ _ | with_reducible assumption))⟩
      case rest =>
        obtain ⟨rfl, z, rfl⟩ := hcut
        clear A1 A2 HORD
        go_upto_region 9 with (fail)
        go_cut [72] (fun s wx => s = .bool false ∧ Ext ((ext ((ext (((w.alloc (.cells #[.int .i64 a.f, .int .i64 a.k, .int .i64 a.l, .int .i64 a.a, .int .i64 a.b, .int .i64 a.c, .int .i64 a.e, .int .i64 a.p, .int .i64 a.q, .int .i64 a.r, .int .i64 a.s] 43)).alloc (.cells #[.int .i64 b.f, .int .i64 b.k, .int .i64 b.l, .int .i64 b.a, .int .i64 b.b, .int .i64 b.c, .int .i64 b.e, .int .i64 b.p, .int .i64 b.q, .int .i64 b.r, .int .i64 b.s] 43)).alloc (.cells #[.int .i64 t.d, .int .i64 t.a, .int .i64 t.b, .int .i64 t.c, .int .i64 t.e] 29)) (xa.add (xb.add (xc.add xd)))).alloc (.cells #[.int .i64 x.d, .int .i64 x.a, .int .i64 x.b, .int .i64 x.c, .int .i64 x.e] 29)) xe).alloc (.cells #[.int .i64 y.d, .int .i64 y.a, .int .i64 y.b, .int .i64 y.c, .int .i64 y.e] 29)) wx)
        case first =>
          cases v1
          · go_wp2_with (first | (go_at_call 37; ((with_reducible refine (L1.out _).mono ?_); rintro o w' ⟨rfl, x, rfl⟩)))
            go_meet
            exact ⟨rfl, by (repeat' (first | with_reducible exact Ext.refl _ | with_reducible refine Ext.ext ?_ _ | with_reducible refine Ext.alloc ?_ _ | with_reducible refine Ext.drew ?_ | with_reducible refine Ext.drewN ?_ _ | with_reducible assumption))⟩
          · cases h4 : leHB b a
            · have L4 : Hid (∀ w, Calls Try.prog 37 #[.agg #[.int .i64 b.f, .int .i64 b.k, .int .i64 b.l, .int .i64 b.a, .int .i64 b.b, .int .i64 b.c, .int .i64 b.e, .int .i64 b.p, .int .i64 b.q, .int .i64 b.r, .int .i64 b.s], .agg #[.int .i64 a.f, .int .i64 a.k, .int .i64 a.l, .int .i64 a.a, .int .i64 a.b, .int .i64 a.c, .int .i64 a.e, .int .i64 a.p, .int .i64 a.q, .int .i64 a.r, .int .i64 a.s]] w fun o w' => o = .returned (.bool false) ∧ Ext w w') := Lib.hid (fun w => hle_as h4 w)
              clear h4
              go_wp2_with (first | (go_at_call 37; ((with_reducible refine (L1.out _).mono ?_); rintro o w' ⟨rfl, x, rfl⟩)) | (go_at_call 37; ((with_reducible refine (L4.out _).mono ?_); rintro o w' ⟨rfl, x, rfl⟩)))
              go_meet
              exact ⟨rfl, by (repeat' (first | with_reducible exact Ext.refl _ | with_reducible refine Ext.ext ?_ _ | with_reducible refine Ext.alloc ?_ _ | with_reducible refine Ext.drew ?_ | with_reducible refine Ext.drewN ?_ _ | with_reducible assumption))⟩
            · by_cases hk : a.k = b.k
              · obtain rfl := leH_anti HL.out h4 hk
                clear hk h4
                go_wp2_with (first | (go_at_call 37; ((with_reducible refine (L1.out _).mono ?_); rintro o w' ⟨rfl, x, rfl⟩)))
                go_meet
                exact ⟨rfl, by (repeat' (first | with_reducible exact Ext.refl _ | with_reducible refine Ext.ext ?_ _ | with_reducible refine Ext.alloc ?_ _ | with_reducible refine Ext.drew ?_ | with_reducible refine Ext.drewN ?_ _ | with_reducible assumption))⟩
              · have L4 : Hid (∀ w, Calls Try.prog 37 #[.agg #[.int .i64 b.f, .int .i64 b.k, .int .i64 b.l, .int .i64 b.a, .int .i64 b.b, .int .i64 b.c, .int .i64 b.e, .int .i64 b.p, .int .i64 b.q, .int .i64 b.r, .int .i64 b.s], .agg #[.int .i64 a.f, .int .i64 a.k, .int .i64 a.l, .int .i64 a.a, .int .i64 a.b, .int .i64 a.c, .int .i64 a.e, .int .i64 a.p, .int .i64 a.q, .int .i64 a.r, .int .i64 a.s]] w fun o w' => o = .returned (.bool true) ∧ Ext w w') := Lib.hid (fun w => hle_as h4 w)
                have hkb : (a.k == b.k) = false := by simpa using hk
                clear h4 hk
                go_wp2_with (first | (go_at_call 37; ((with_reducible refine (L1.out _).mono ?_); rintro o w' ⟨rfl, x, rfl⟩)) | (go_at_call 37; ((with_reducible refine (L4.out _).mono ?_); rintro o w' ⟨rfl, x, rfl⟩)))
                go_meet
                exact ⟨rfl, by (repeat' (first | with_reducible exact Ext.refl _ | with_reducible refine Ext.ext ?_ _ | with_reducible refine Ext.alloc ?_ _ | with_reducible refine Ext.drew ?_ | with_reducible refine Ext.drewN ?_ _ | with_reducible assumption))⟩
        case rest =>
          obtain ⟨rfl, z2, rfl⟩ := hcut
          have haa := leH_refl HA.out
          have L5 : Hid (∀ w, Calls Try.prog 37 #[.agg #[.int .i64 a.f, .int .i64 a.k, .int .i64 a.l, .int .i64 a.a, .int .i64 a.b, .int .i64 a.c, .int .i64 a.e, .int .i64 a.p, .int .i64 a.q, .int .i64 a.r, .int .i64 a.s], .agg #[.int .i64 a.f, .int .i64 a.k, .int .i64 a.l, .int .i64 a.a, .int .i64 a.b, .int .i64 a.c, .int .i64 a.e, .int .i64 a.p, .int .i64 a.q, .int .i64 a.r, .int .i64 a.s]] w fun o w' => o = .returned (.bool true) ∧ Ext w w') := Lib.hid (fun w => hle_as haa w)
          have hzz := fun hf hk h1 h2 => leH_zero HA.out HB.out hf hk h1 h2
          rw [HL.out] at hzz
          generalize e1 : apR a ⟨a.f, 0, 0, 0, 0⟩ = x0 at hzz
          generalize e2 : apR b ⟨a.f, 0, 0, 0, 0⟩ = y0 at hzz
          generalize e3 : apOk a ⟨a.f, 0, 0, 0, 0⟩ = v4 at hzz
          generalize e4 : apOk b ⟨a.f, 0, 0, 0, 0⟩ = v5 at hzz
          have A3 : Hid (∀ w, Calls Try.prog 32 #[.agg #[.int .i64 a.f, .int .i64 a.k, .int .i64 a.l, .int .i64 a.a, .int .i64 a.b, .int .i64 a.c, .int .i64 a.e, .int .i64 a.p, .int .i64 a.q, .int .i64 a.r, .int .i64 a.s], .agg #[.int .i64 a.f, .int .i64 0, .int .i64 0, .int .i64 0, .int .i64 0]] w fun o w' => o = .returned (.tuple #[.agg #[.int .i64 x0.d, .int .i64 x0.a, .int .i64 x0.b, .int .i64 x0.c, .int .i64 x0.e], .bool v4]) ∧ Ext w w') := Lib.hid (fun w => ap_as (t := ⟨a.f, 0, 0, 0, 0⟩) e1 e3 w)
          have A4 : Hid (∀ w, Calls Try.prog 32 #[.agg #[.int .i64 b.f, .int .i64 b.k, .int .i64 b.l, .int .i64 b.a, .int .i64 b.b, .int .i64 b.c, .int .i64 b.e, .int .i64 b.p, .int .i64 b.q, .int .i64 b.r, .int .i64 b.s], .agg #[.int .i64 a.f, .int .i64 0, .int .i64 0, .int .i64 0, .int .i64 0]] w fun o w' => o = .returned (.tuple #[.agg #[.int .i64 y0.d, .int .i64 y0.a, .int .i64 y0.b, .int .i64 y0.c, .int .i64 y0.e], .bool v5]) ∧ Ext w w') := Lib.hid (fun w => ap_as (t := ⟨a.f, 0, 0, 0, 0⟩) e2 e4 w)
          have HZ := Lib.hid hzz
          clear haa hzz e1 e2 e3 e4
          by_cases hf : a.f = b.f
          · have hfb : (a.f == b.f) = true := by simpa using hf
            have hfn : (a.f != b.f) = false := by simpa using hf
            have HF := Lib.hid hf
            clear hf
            by_cases hk : a.k = b.k
            · have hkb : (a.k == b.k) = true := by simpa using hk
              have hkn : (a.k != b.k) = false := by simpa using hk
              have HK := Lib.hid hk
              clear hk
              cases v4
              · go_wp2_with (first | (go_at_call 32; ((with_reducible refine (A3.out _).mono ?_); rintro o w' ⟨rfl, x, rfl⟩)) | (go_at_call 32; ((with_reducible refine (A4.out _).mono ?_); rintro o w' ⟨rfl, x, rfl⟩)))
                refine wp_region_ext (by kernel_rfl) (by kernel_rfl) ?_
                repeat (go_big_quiet_step (first | (go_at_call 37; (apply quiet_of; (with_reducible exact L5.out _); (intro w' hx; obtain ⟨z, rfl⟩ := hx; (try simp only [ext_ext, add_assoc]); exact ⟨_, rfl⟩))) | (go_at_call 37; (apply quiet_of; (with_reducible exact L1.out _); (intro w' hx; obtain ⟨z, rfl⟩ := hx; (try simp only [ext_ext, add_assoc]); exact ⟨_, rfl⟩)))))
                refine wpQuiet_nil ?_
                intro xK
                go_wp2
                go_returns
                exact ⟨retb rfl rfl, by (repeat' (first | with_reducible exact Ext.refl _ | with_reducible refine Ext.ext ?_ _ | with_reducible refine Ext.alloc ?_ _ | with_reducible refine Ext.drew ?_ | with_reducible refine Ext.drewN ?_ _ | with_reducible assumption))⟩
              · cases v5
                · go_wp2_with (first | (go_at_call 32; ((with_reducible refine (A3.out _).mono ?_); rintro o w' ⟨rfl, x, rfl⟩)) | (go_at_call 32; ((with_reducible refine (A4.out _).mono ?_); rintro o w' ⟨rfl, x, rfl⟩)))
                  refine wp_region_ext (by kernel_rfl) (by kernel_rfl) ?_
                  repeat (go_big_quiet_step (first | (go_at_call 37; (apply quiet_of; (with_reducible exact L5.out _); (intro w' hx; obtain ⟨z, rfl⟩ := hx; (try simp only [ext_ext, add_assoc]); exact ⟨_, rfl⟩))) | (go_at_call 37; (apply quiet_of; (with_reducible exact L1.out _); (intro w' hx; obtain ⟨z, rfl⟩ := hx; (try simp only [ext_ext, add_assoc]); exact ⟨_, rfl⟩)))))
                  refine wpQuiet_nil ?_
                  intro xK
                  go_wp2
                  go_returns
                  exact ⟨retb rfl rfl, by (repeat' (first | with_reducible exact Ext.refl _ | with_reducible refine Ext.ext ?_ _ | with_reducible refine Ext.alloc ?_ _ | with_reducible refine Ext.drew ?_ | with_reducible refine Ext.drewN ?_ _ | with_reducible assumption))⟩
                · have hl := (HZ.out HF.out HK.out rfl rfl).symm
                  have L6 : Hid (∀ w, Calls Try.prog 21 #[.agg #[.int .i64 x0.d, .int .i64 x0.a, .int .i64 x0.b, .int .i64 x0.c, .int .i64 x0.e], .agg #[.int .i64 y0.d, .int .i64 y0.a, .int .i64 y0.b, .int .i64 y0.c, .int .i64 y0.e]] w fun o w' => o = .returned (.bool v1) ∧ Ext w w') := Lib.hid (fun w => tle_as hl w)
                  clear hl
                  go_wp2_with (first | (go_at_call 32; ((with_reducible refine (A3.out _).mono ?_); rintro o w' ⟨rfl, x, rfl⟩)) | (go_at_call 32; ((with_reducible refine (A4.out _).mono ?_); rintro o w' ⟨rfl, x, rfl⟩)))
                  refine wp_region_ext (by kernel_rfl) (by kernel_rfl) ?_
                  repeat (go_big_quiet_step (first | (go_at_call 37; (apply quiet_of; (with_reducible exact L5.out _); (intro w' hx; obtain ⟨z, rfl⟩ := hx; (try simp only [ext_ext, add_assoc]); exact ⟨_, rfl⟩))) | (go_at_call 37; (apply quiet_of; (with_reducible exact L1.out _); (intro w' hx; obtain ⟨z, rfl⟩ := hx; (try simp only [ext_ext, add_assoc]); exact ⟨_, rfl⟩))) | (go_at_call 21; (apply quiet_of; (with_reducible exact L6.out _); (intro w' hx; obtain ⟨z, rfl⟩ := hx; (try simp only [ext_ext, add_assoc]); exact ⟨_, rfl⟩)))))
                  refine wpQuiet_nil ?_
                  intro xK
                  go_wp2
                  go_returns
                  exact ⟨retb rfl (by simp), by (repeat' (first | with_reducible exact Ext.refl _ | with_reducible refine Ext.ext ?_ _ | with_reducible refine Ext.alloc ?_ _ | with_reducible refine Ext.drew ?_ | with_reducible refine Ext.drewN ?_ _ | with_reducible assumption))⟩
            · have hkb : (a.k == b.k) = false := by simpa using hk
              have hkn : (a.k != b.k) = true := by simpa using hk
              clear hk
              go_wp2_with (first | (go_at_call 32; ((with_reducible refine (A3.out _).mono ?_); rintro o w' ⟨rfl, x, rfl⟩)) | (go_at_call 32; ((with_reducible refine (A4.out _).mono ?_); rintro o w' ⟨rfl, x, rfl⟩)))
              refine wp_region_ext (by kernel_rfl) (by kernel_rfl) ?_
              repeat (go_big_quiet_step (first | (go_at_call 37; (apply quiet_of; (with_reducible exact L5.out _); (intro w' hx; obtain ⟨z, rfl⟩ := hx; (try simp only [ext_ext, add_assoc]); exact ⟨_, rfl⟩))) | (go_at_call 37; (apply quiet_of; (with_reducible exact L1.out _); (intro w' hx; obtain ⟨z, rfl⟩ := hx; (try simp only [ext_ext, add_assoc]); exact ⟨_, rfl⟩)))))
              refine wpQuiet_nil ?_
              intro xK
              go_wp2
              go_returns
              exact ⟨retb rfl rfl, by (repeat' (first | with_reducible exact Ext.refl _ | with_reducible refine Ext.ext ?_ _ | with_reducible refine Ext.alloc ?_ _ | with_reducible refine Ext.drew ?_ | with_reducible refine Ext.drewN ?_ _ | with_reducible assumption))⟩
          · have hfb : (a.f == b.f) = false := by simpa using hf
            have hfn : (a.f != b.f) = true := by simpa using hf
            clear hf
            go_wp2_with (first | (go_at_call 32; ((with_reducible refine (A3.out _).mono ?_); rintro o w' ⟨rfl, x, rfl⟩)) | (go_at_call 32; ((with_reducible refine (A4.out _).mono ?_); rintro o w' ⟨rfl, x, rfl⟩)))
            refine wp_region_ext (by kernel_rfl) (by kernel_rfl) ?_
            repeat (go_big_quiet_step (first | (go_at_call 37; (apply quiet_of; (with_reducible exact L5.out _); (intro w' hx; obtain ⟨z, rfl⟩ := hx; (try simp only [ext_ext, add_assoc]); exact ⟨_, rfl⟩))) | (go_at_call 37; (apply quiet_of; (with_reducible exact L1.out _); (intro w' hx; obtain ⟨z, rfl⟩ := hx; (try simp only [ext_ext, add_assoc]); exact ⟨_, rfl⟩)))))
            refine wpQuiet_nil ?_
            intro xK
            go_wp2
            go_returns
            exact ⟨retb rfl rfl, by (repeat' (first | with_reducible exact Ext.refl _ | with_reducible refine Ext.ext ?_ _ | with_reducible refine Ext.alloc ?_ _ | with_reducible refine Ext.drew ?_ | with_reducible refine Ext.drewN ?_ _ | with_reducible assumption))⟩
end Go.Proofs.Ytfdgeomomafnbaa

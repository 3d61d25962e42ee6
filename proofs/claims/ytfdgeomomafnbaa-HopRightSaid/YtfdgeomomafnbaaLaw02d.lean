/- The walk of HopKeeps. -/
import Derived.Test.YtfdgeomomafnbaaLaw02a
import Derived.Test.YtfdgeomomafnbaaHopLaw2
import Derived.Deep.DeepCutAuto
namespace Go.Proofs.Ytfdgeomomafnbaa
set_option linter.unusedSimpArgs false
set_option linter.unusedVariables false
open Go.RowKit

theorem tle_as {t u : Tm} {v : Bool} (h : leB t u = v) (w : World) : Calls Try.prog 21 #[tv t, tv u] w fun o w' => o = .returned (.bool v) ∧ Ext w w' := le_eq (d := t.d) (a := t.a) (b := t.b) (c := t.c) (e := t.e) (d' := u.d) (a' := u.a) (b' := u.b) (c' := u.c) (e' := u.e) h w
theorem hle_as {x y : Hp} {v : Bool} (h : leHB x y = v) (w : World) : Calls Try.prog 37 #[hv x, hv y] w fun o w' => o = .returned (.bool v) ∧ Ext w w' := by
  subst h
  exact hopLe_any x.f x.k x.l x.a x.b x.c x.e x.p x.q x.r x.s y.f y.k y.l y.a y.b y.c y.e y.p y.q y.r y.s w

set_option synthInstance.maxHeartbeats 400000 in
set_option maxRecDepth 100000 in
set_option maxHeartbeats 40000000 in
theorem walk_HopKeeps (a b c : Hp) (t u : Tm) (w : World) :
    Calls Try.prog 13 #[.agg #[.int .i64 a.f, .int .i64 a.k, .int .i64 a.l, .int .i64 a.a, .int .i64 a.b, .int .i64 a.c, .int .i64 a.e, .int .i64 a.p, .int .i64 a.q, .int .i64 a.r, .int .i64 a.s], .agg #[.int .i64 b.f, .int .i64 b.k, .int .i64 b.l, .int .i64 b.a, .int .i64 b.b, .int .i64 b.c, .int .i64 b.e, .int .i64 b.p, .int .i64 b.q, .int .i64 b.r, .int .i64 b.s], .agg #[.int .i64 c.f, .int .i64 c.k, .int .i64 c.l, .int .i64 c.a, .int .i64 c.b, .int .i64 c.c, .int .i64 c.e, .int .i64 c.p, .int .i64 c.q, .int .i64 c.r, .int .i64 c.s], .agg #[.int .i64 t.d, .int .i64 t.a, .int .i64 t.b, .int .i64 t.c, .int .i64 t.e], .agg #[.int .i64 u.d, .int .i64 u.a, .int .i64 u.b, .int .i64 u.c, .int .i64 u.e]] w fun r w' => r = .returned (.bool true) ∧ Ext w w' := by
  have AW := Lib.hid (fun w => awake02 w)
  generalize h1 : leB t u = v1
  have L1 : Hid (∀ w, Calls Try.prog 21 #[.agg #[.int .i64 t.d, .int .i64 t.a, .int .i64 t.b, .int .i64 t.c, .int .i64 t.e], .agg #[.int .i64 u.d, .int .i64 u.a, .int .i64 u.b, .int .i64 u.c, .int .i64 u.e]] w fun o w' => o = .returned (.bool v1) ∧ Ext w w') := Lib.hid (fun w => tle_as h1 w)
  have H1 := Lib.hid h1
  clear h1
  generalize h2 : leHB a b = v2
  have L2 : Hid (∀ w, Calls Try.prog 37 #[.agg #[.int .i64 a.f, .int .i64 a.k, .int .i64 a.l, .int .i64 a.a, .int .i64 a.b, .int .i64 a.c, .int .i64 a.e, .int .i64 a.p, .int .i64 a.q, .int .i64 a.r, .int .i64 a.s], .agg #[.int .i64 b.f, .int .i64 b.k, .int .i64 b.l, .int .i64 b.a, .int .i64 b.b, .int .i64 b.c, .int .i64 b.e, .int .i64 b.p, .int .i64 b.q, .int .i64 b.r, .int .i64 b.s]] w fun o w' => o = .returned (.bool v2) ∧ Ext w w') := Lib.hid (fun w => hle_as h2 w)
  have H2 := Lib.hid h2
  clear h2
  go_enter Try.func13, Try.ntmps13
  go_upto_if 23 with (first | (go_at_call 30; refine (AW.out _).mono ?_; rintro r w' ⟨rfl, x, rfl⟩) | (go_at_call 21; ((with_reducible refine (L1.out _).mono ?_); rintro o w' ⟨rfl, x, rfl⟩)))
  go_cut [10] (fun s wx => s = .bool false ∧ Ext (((((w.alloc (.cells #[.int .i64 a.f, .int .i64 a.k, .int .i64 a.l, .int .i64 a.a, .int .i64 a.b, .int .i64 a.c, .int .i64 a.e, .int .i64 a.p, .int .i64 a.q, .int .i64 a.r, .int .i64 a.s] 43)).alloc (.cells #[.int .i64 b.f, .int .i64 b.k, .int .i64 b.l, .int .i64 b.a, .int .i64 b.b, .int .i64 b.c, .int .i64 b.e, .int .i64 b.p, .int .i64 b.q, .int .i64 b.r, .int .i64 b.s] 43)).alloc (.cells #[.int .i64 c.f, .int .i64 c.k, .int .i64 c.l, .int .i64 c.a, .int .i64 c.b, .int .i64 c.c, .int .i64 c.e, .int .i64 c.p, .int .i64 c.q, .int .i64 c.r, .int .i64 c.s] 43)).alloc (.cells #[.int .i64 t.d, .int .i64 t.a, .int .i64 t.b, .int .i64 t.c, .int .i64 t.e] 29)).alloc (.cells #[.int .i64 u.d, .int .i64 u.a, .int .i64 u.b, .int .i64 u.c, .int .i64 u.e] 29)) wx)
  case first =>
    cases v1
    · go_wp2
      go_meet
      exact ⟨rfl, by (repeat' (first | with_reducible exact Ext.refl _ | with_reducible refine Ext.ext ?_ _ | with_reducible refine Ext.alloc ?_ _ | with_reducible refine Ext.drew ?_ | with_reducible refine Ext.drewN ?_ _ | with_reducible assumption))⟩
    · have hk := fun h => ap_keeps (a := a) H1.out h
      cases hu : apOk a u
      · generalize hx : apR a t = x
        generalize hv : apOk a t = v
        have A1 : Hid (∀ w, Calls Try.prog 32 #[.agg #[.int .i64 a.f, .int .i64 a.k, .int .i64 a.l, .int .i64 a.a, .int .i64 a.b, .int .i64 a.c, .int .i64 a.e, .int .i64 a.p, .int .i64 a.q, .int .i64 a.r, .int .i64 a.s], .agg #[.int .i64 t.d, .int .i64 t.a, .int .i64 t.b, .int .i64 t.c, .int .i64 t.e]] w fun o w' => o = .returned (.tuple #[.agg #[.int .i64 x.d, .int .i64 x.a, .int .i64 x.b, .int .i64 x.c, .int .i64 x.e], .bool v]) ∧ Ext w w') := Lib.hid (fun w => ap_as hx hv w)
        generalize hy : apR a u = y
        have A2 : Hid (∀ w, Calls Try.prog 32 #[.agg #[.int .i64 a.f, .int .i64 a.k, .int .i64 a.l, .int .i64 a.a, .int .i64 a.b, .int .i64 a.c, .int .i64 a.e, .int .i64 a.p, .int .i64 a.q, .int .i64 a.r, .int .i64 a.s], .agg #[.int .i64 u.d, .int .i64 u.a, .int .i64 u.b, .int .i64 u.c, .int .i64 u.e]] w fun o w' => o = .returned (.tuple #[.agg #[.int .i64 y.d, .int .i64 y.a, .int .i64 y.b, .int .i64 y.c, .int .i64 y.e], .bool false]) ∧ Ext w w') := Lib.hid (fun w => ap_as hy hu w)
        clear hx hv hy hu hk
        go_wp2_with (first | (go_at_call 32; ((with_reducible refine (A1.out _).mono ?_); rintro o w' ⟨rfl, x, rfl⟩)) | (go_at_call 32; ((with_reducible refine (A2.out _).mono ?_); rintro o w' ⟨rfl, x, rfl⟩)))
        go_meet
        exact ⟨rfl, by (repeat' (first | with_reducible exact Ext.refl _ | with_reducible refine Ext.ext ?_ _ | with_reducible refine Ext.alloc ?_ _ | with_reducible refine Ext.drew ?_ | with_reducible refine Ext.drewN ?_ _ | with_reducible assumption))⟩
      · obtain ⟨hv, hl⟩ := hk hu
        generalize hx : apR a t = x at hl
        have A1 : Hid (∀ w, Calls Try.prog 32 #[.agg #[.int .i64 a.f, .int .i64 a.k, .int .i64 a.l, .int .i64 a.a, .int .i64 a.b, .int .i64 a.c, .int .i64 a.e, .int .i64 a.p, .int .i64 a.q, .int .i64 a.r, .int .i64 a.s], .agg #[.int .i64 t.d, .int .i64 t.a, .int .i64 t.b, .int .i64 t.c, .int .i64 t.e]] w fun o w' => o = .returned (.tuple #[.agg #[.int .i64 x.d, .int .i64 x.a, .int .i64 x.b, .int .i64 x.c, .int .i64 x.e], .bool true]) ∧ Ext w w') := Lib.hid (fun w => ap_as hx hv w)
        generalize hy : apR a u = y at hl
        have A2 : Hid (∀ w, Calls Try.prog 32 #[.agg #[.int .i64 a.f, .int .i64 a.k, .int .i64 a.l, .int .i64 a.a, .int .i64 a.b, .int .i64 a.c, .int .i64 a.e, .int .i64 a.p, .int .i64 a.q, .int .i64 a.r, .int .i64 a.s], .agg #[.int .i64 u.d, .int .i64 u.a, .int .i64 u.b, .int .i64 u.c, .int .i64 u.e]] w fun o w' => o = .returned (.tuple #[.agg #[.int .i64 y.d, .int .i64 y.a, .int .i64 y.b, .int .i64 y.c, .int .i64 y.e], .bool true]) ∧ Ext w w') := Lib.hid (fun w => ap_as hy hu w)
        have L3 : Hid (∀ w, Calls Try.prog 21 #[.agg #[.int .i64 x.d, .int .i64 x.a, .int .i64 x.b, .int .i64 x.c, .int .i64 x.e], .agg #[.int .i64 y.d, .int .i64 y.a, .int .i64 y.b, .int .i64 y.c, .int .i64 y.e]] w fun o w' => o = .returned (.bool true) ∧ Ext w w') := Lib.hid (fun w => tle_as hl w)
        clear hx hv hy hu hk hl
        go_wp2_with (first | (go_at_call 32; ((with_reducible refine (A1.out _).mono ?_); rintro o w' ⟨rfl, x, rfl⟩)) | (go_at_call 32; ((with_reducible refine (A2.out _).mono ?_); rintro o w' ⟨rfl, x, rfl⟩)) | (go_at_call 21; ((with_reducible refine (L3.out _).mono ?_); rintro o w' ⟨rfl, x, rfl⟩)))
        go_meet
        exact ⟨rfl, by (repeat' (first | with_reducible exact Ext.refl _ | with_reducible refine Ext.ext ?_ _ | with_reducible refine Ext.alloc ?_ _ | with_reducible refine Ext.drew ?_ | with_reducible refine Ext.drewN ?_ _ | with_reducible assumption))⟩
  case rest =>
    obtain ⟨rfl, z, rfl⟩ := hcut
    cases v2
    · go_wp2_with (first | (go_at_call 37; ((with_reducible refine (L2.out _).mono ?_); rintro o w' ⟨rfl, x, rfl⟩)))
      go_returns
      exact ⟨retb rfl rfl, by (repeat' (first | with_reducible exact Ext.refl _ | with_reducible refine Ext.ext ?_ _ | with_reducible refine Ext.alloc ?_ _ | with_reducible refine Ext.drew ?_ | with_reducible refine Ext.drewN ?_ _ | with_reducible assumption))⟩
    · generalize e1 : thR a c = x1
      generalize o1 : thOk a c = v3
      have T1 : Hid (∀ w, Calls Try.prog 31 #[.agg #[.int .i64 a.f, .int .i64 a.k, .int .i64 a.l, .int .i64 a.a, .int .i64 a.b, .int .i64 a.c, .int .i64 a.e, .int .i64 a.p, .int .i64 a.q, .int .i64 a.r, .int .i64 a.s], .agg #[.int .i64 c.f, .int .i64 c.k, .int .i64 c.l, .int .i64 c.a, .int .i64 c.b, .int .i64 c.c, .int .i64 c.e, .int .i64 c.p, .int .i64 c.q, .int .i64 c.r, .int .i64 c.s]] w fun o w' => o = .returned (.tuple #[.agg #[.int .i64 x1.f, .int .i64 x1.k, .int .i64 x1.l, .int .i64 x1.a, .int .i64 x1.b, .int .i64 x1.c, .int .i64 x1.e, .int .i64 x1.p, .int .i64 x1.q, .int .i64 x1.r, .int .i64 x1.s], .bool v3]) ∧ Ext w w') := Lib.hid (fun w => th_as e1 o1 w)
      generalize e2 : thR b c = y1
      generalize o2 : thOk b c = v4
      have T2 : Hid (∀ w, Calls Try.prog 31 #[.agg #[.int .i64 b.f, .int .i64 b.k, .int .i64 b.l, .int .i64 b.a, .int .i64 b.b, .int .i64 b.c, .int .i64 b.e, .int .i64 b.p, .int .i64 b.q, .int .i64 b.r, .int .i64 b.s], .agg #[.int .i64 c.f, .int .i64 c.k, .int .i64 c.l, .int .i64 c.a, .int .i64 c.b, .int .i64 c.c, .int .i64 c.e, .int .i64 c.p, .int .i64 c.q, .int .i64 c.r, .int .i64 c.s]] w fun o w' => o = .returned (.tuple #[.agg #[.int .i64 y1.f, .int .i64 y1.k, .int .i64 y1.l, .int .i64 y1.a, .int .i64 y1.b, .int .i64 y1.c, .int .i64 y1.e, .int .i64 y1.p, .int .i64 y1.q, .int .i64 y1.r, .int .i64 y1.s], .bool v4]) ∧ Ext w w') := Lib.hid (fun w => th_as e2 o2 w)
      have HE1 := Lib.hid e1
      have HE2 := Lib.hid e2
      have HO1 := Lib.hid o1
      have HO2 := Lib.hid o2
      clear e1 e2 o1 o2
      go_upto_region 12 with (first | (go_at_call 37; ((with_reducible refine (L2.out _).mono ?_); rintro o w' ⟨rfl, yl, rfl⟩)) | (go_at_call 31; ((with_reducible refine (T1.out _).mono ?_); rintro o w' ⟨rfl, ya, rfl⟩)) | (go_at_call 31; ((with_reducible refine (T2.out _).mono ?_); rintro o w' ⟨rfl, yb, rfl⟩)))
      go_cut [72] (fun s wx => s = .bool false ∧ Ext ((ext ((ext (((((w.alloc (.cells #[.int .i64 a.f, .int .i64 a.k, .int .i64 a.l, .int .i64 a.a, .int .i64 a.b, .int .i64 a.c, .int .i64 a.e, .int .i64 a.p, .int .i64 a.q, .int .i64 a.r, .int .i64 a.s] 43)).alloc (.cells #[.int .i64 b.f, .int .i64 b.k, .int .i64 b.l, .int .i64 b.a, .int .i64 b.b, .int .i64 b.c, .int .i64 b.e, .int .i64 b.p, .int .i64 b.q, .int .i64 b.r, .int .i64 b.s] 43)).alloc (.cells #[.int .i64 c.f, .int .i64 c.k, .int .i64 c.l, .int .i64 c.a, .int .i64 c.b, .int .i64 c.c, .int .i64 c.e, .int .i64 c.p, .int .i64 c.q, .int .i64 c.r, .int .i64 c.s] 43)).alloc (.cells #[.int .i64 t.d, .int .i64 t.a, .int .i64 t.b, .int .i64 t.c, .int .i64 t.e] 29)).alloc (.cells #[.int .i64 u.d, .int .i64 u.a, .int .i64 u.b, .int .i64 u.c, .int .i64 u.e] 29)) (z.add (yl.add ya))).alloc (.cells #[.int .i64 x1.f, .int .i64 x1.k, .int .i64 x1.l, .int .i64 x1.a, .int .i64 x1.b, .int .i64 x1.c, .int .i64 x1.e, .int .i64 x1.p, .int .i64 x1.q, .int .i64 x1.r, .int .i64 x1.s] 43)) yb).alloc (.cells #[.int .i64 y1.f, .int .i64 y1.k, .int .i64 y1.l, .int .i64 y1.a, .int .i64 y1.b, .int .i64 y1.c, .int .i64 y1.e, .int .i64 y1.p, .int .i64 y1.q, .int .i64 y1.r, .int .i64 y1.s] 43)) wx)
      case first =>
        have hl := fun (h1 : thOk a c = true) (h2 : thOk b c = true) => then_keeps_l H2.out h1 h2
        rw [HE1.out, HE2.out, HO1.out, HO2.out] at hl
        cases v3
        · go_wp2
          go_meet
          exact ⟨rfl, by (repeat' (first | with_reducible exact Ext.refl _ | with_reducible refine Ext.ext ?_ _ | with_reducible refine Ext.alloc ?_ _ | with_reducible refine Ext.drew ?_ | with_reducible refine Ext.drewN ?_ _ | with_reducible assumption))⟩
        · cases v4
          · go_wp2
            go_meet
            exact ⟨rfl, by (repeat' (first | with_reducible exact Ext.refl _ | with_reducible refine Ext.ext ?_ _ | with_reducible refine Ext.alloc ?_ _ | with_reducible refine Ext.drew ?_ | with_reducible refine Ext.drewN ?_ _ | with_reducible assumption))⟩
          · have hl := hl rfl rfl
            have L4 : Hid (∀ w, Calls Try.prog 37 #[.agg #[.int .i64 x1.f, .int .i64 x1.k, .int .i64 x1.l, .int .i64 x1.a, .int .i64 x1.b, .int .i64 x1.c, .int .i64 x1.e, .int .i64 x1.p, .int .i64 x1.q, .int .i64 x1.r, .int .i64 x1.s], .agg #[.int .i64 y1.f, .int .i64 y1.k, .int .i64 y1.l, .int .i64 y1.a, .int .i64 y1.b, .int .i64 y1.c, .int .i64 y1.e, .int .i64 y1.p, .int .i64 y1.q, .int .i64 y1.r, .int .i64 y1.s]] w fun o w' => o = .returned (.bool true) ∧ Ext w w') := Lib.hid (fun w => hle_as hl w)
            clear hl
            go_wp2_with (first | (go_at_call 37; ((with_reducible refine (L4.out _).mono ?_); rintro o w' ⟨rfl, x, rfl⟩)))
            go_meet
            exact ⟨rfl, by (repeat' (first | with_reducible exact Ext.refl _ | with_reducible refine Ext.ext ?_ _ | with_reducible refine Ext.alloc ?_ _ | with_reducible refine Ext.drew ?_ | with_reducible refine Ext.drewN ?_ _ | with_reducible assumption))⟩
      case rest =>
        obtain ⟨rfl, z2, rfl⟩ := hcut
        clear HE1 HE2 HO1 HO2 T1 T2
        have hl := fun (h1 : thOk c a = true) (h2 : thOk c b = true) => then_keeps_r H2.out h1 h2
        cases o3 : thOk c a
        · generalize e3 : thR c a = x2
          have T3 : Hid (∀ w, Calls Try.prog 31 #[.agg #[.int .i64 c.f, .int .i64 c.k, .int .i64 c.l, .int .i64 c.a, .int .i64 c.b, .int .i64 c.c, .int .i64 c.e, .int .i64 c.p, .int .i64 c.q, .int .i64 c.r, .int .i64 c.s], .agg #[.int .i64 a.f, .int .i64 a.k, .int .i64 a.l, .int .i64 a.a, .int .i64 a.b, .int .i64 a.c, .int .i64 a.e, .int .i64 a.p, .int .i64 a.q, .int .i64 a.r, .int .i64 a.s]] w fun o w' => o = .returned (.tuple #[.agg #[.int .i64 x2.f, .int .i64 x2.k, .int .i64 x2.l, .int .i64 x2.a, .int .i64 x2.b, .int .i64 x2.c, .int .i64 x2.e, .int .i64 x2.p, .int .i64 x2.q, .int .i64 x2.r, .int .i64 x2.s], .bool false]) ∧ Ext w w') := Lib.hid (fun w => th_as e3 o3 w)
          generalize e4 : thR c b = y2
          generalize o4 : thOk c b = v5
          have T4 : Hid (∀ w, Calls Try.prog 31 #[.agg #[.int .i64 c.f, .int .i64 c.k, .int .i64 c.l, .int .i64 c.a, .int .i64 c.b, .int .i64 c.c, .int .i64 c.e, .int .i64 c.p, .int .i64 c.q, .int .i64 c.r, .int .i64 c.s], .agg #[.int .i64 b.f, .int .i64 b.k, .int .i64 b.l, .int .i64 b.a, .int .i64 b.b, .int .i64 b.c, .int .i64 b.e, .int .i64 b.p, .int .i64 b.q, .int .i64 b.r, .int .i64 b.s]] w fun o w' => o = .returned (.tuple #[.agg #[.int .i64 y2.f, .int .i64 y2.k, .int .i64 y2.l, .int .i64 y2.a, .int .i64 y2.b, .int .i64 y2.c, .int .i64 y2.e, .int .i64 y2.p, .int .i64 y2.q, .int .i64 y2.r, .int .i64 y2.s], .bool v5]) ∧ Ext w w') := Lib.hid (fun w => th_as e4 o4 w)
          clear e3 e4 o3 o4 hl
          go_wp2_with (first | (go_at_call 31; ((with_reducible refine (T3.out _).mono ?_); rintro o w' ⟨rfl, x, rfl⟩)) | (go_at_call 31; ((with_reducible refine (T4.out _).mono ?_); rintro o w' ⟨rfl, x, rfl⟩)))
          go_returns
          exact ⟨retb rfl rfl, by (repeat' (first | with_reducible exact Ext.refl _ | with_reducible refine Ext.ext ?_ _ | with_reducible refine Ext.alloc ?_ _ | with_reducible refine Ext.drew ?_ | with_reducible refine Ext.drewN ?_ _ | with_reducible assumption))⟩
        · cases o4 : thOk c b
          · generalize e3 : thR c a = x2
            have T3 : Hid (∀ w, Calls Try.prog 31 #[.agg #[.int .i64 c.f, .int .i64 c.k, .int .i64 c.l, .int .i64 c.a, .int .i64 c.b, .int .i64 c.c, .int .i64 c.e, .int .i64 c.p, .int .i64 c.q, .int .i64 c.r, .int .i64 c.s], .agg #[.int .i64 a.f, .int .i64 a.k, .int .i64 a.l, .int .i64 a.a, .int .i64 a.b, .int .i64 a.c, .int .i64 a.e, .int .i64 a.p, .int .i64 a.q, .int .i64 a.r, .int .i64 a.s]] w fun o w' => o = .returned (.tuple #[.agg #[.int .i64 x2.f, .int .i64 x2.k, .int .i64 x2.l, .int .i64 x2.a, .int .i64 x2.b, .int .i64 x2.c, .int .i64 x2.e, .int .i64 x2.p, .int .i64 x2.q, .int .i64 x2.r, .int .i64 x2.s], .bool true]) ∧ Ext w w') := Lib.hid (fun w => th_as e3 o3 w)
            generalize e4 : thR c b = y2
            have T4 : Hid (∀ w, Calls Try.prog 31 #[.agg #[.int .i64 c.f, .int .i64 c.k, .int .i64 c.l, .int .i64 c.a, .int .i64 c.b, .int .i64 c.c, .int .i64 c.e, .int .i64 c.p, .int .i64 c.q, .int .i64 c.r, .int .i64 c.s], .agg #[.int .i64 b.f, .int .i64 b.k, .int .i64 b.l, .int .i64 b.a, .int .i64 b.b, .int .i64 b.c, .int .i64 b.e, .int .i64 b.p, .int .i64 b.q, .int .i64 b.r, .int .i64 b.s]] w fun o w' => o = .returned (.tuple #[.agg #[.int .i64 y2.f, .int .i64 y2.k, .int .i64 y2.l, .int .i64 y2.a, .int .i64 y2.b, .int .i64 y2.c, .int .i64 y2.e, .int .i64 y2.p, .int .i64 y2.q, .int .i64 y2.r, .int .i64 y2.s], .bool false]) ∧ Ext w w') := Lib.hid (fun w => th_as e4 o4 w)
            clear e3 e4 o3 o4 hl
            go_wp2_with (first | (go_at_call 31; ((with_reducible refine (T3.out _).mono ?_); rintro o w' ⟨rfl, x, rfl⟩)) | (go_at_call 31; ((with_reducible refine (T4.out _).mono ?_); rintro o w' ⟨rfl, x, rfl⟩)))
            go_returns
            exact ⟨retb rfl rfl, by (repeat' (first | with_reducible exact Ext.refl _ | with_reducible refine Ext.ext ?_ _ | with_reducible refine Ext.alloc ?_ _ | with_reducible refine Ext.drew ?_ | with_reducible refine Ext.drewN ?_ _ | with_reducible assumption))⟩
          · have hl := hl o3 o4
            generalize e3 : thR c a = x2 at hl
            have T3 : Hid (∀ w, Calls Try.prog 31 #[.agg #[.int .i64 c.f, .int .i64 c.k, .int .i64 c.l, .int .i64 c.a, .int .i64 c.b, .int .i64 c.c, .int .i64 c.e, .int .i64 c.p, .int .i64 c.q, .int .i64 c.r, .int .i64 c.s], .agg #[.int .i64 a.f, .int .i64 a.k, .int .i64 a.l, .int .i64 a.a, .int .i64 a.b, .int .i64 a.c, .int .i64 a.e, .int .i64 a.p, .int .i64 a.q, .int .i64 a.r, .int .i64 a.s]] w fun o w' => o = .returned (.tuple #[.agg #[.int .i64 x2.f, .int .i64 x2.k, .int .i64 x2.l, .int .i64 x2.a, .int .i64 x2.b, .int .i64 x2.c, .int .i64 x2.e, .int .i64 x2.p, .int .i64 x2.q, .int .i64 x2.r, .int .i64 x2.s], .bool true]) ∧ Ext w w') := Lib.hid (fun w => th_as e3 o3 w)
            generalize e4 : thR c b = y2 at hl
            have T4 : Hid (∀ w, Calls Try.prog 31 #[.agg #[.int .i64 c.f, .int .i64 c.k, .int .i64 c.l, .int .i64 c.a, .int .i64 c.b, .int .i64 c.c, .int .i64 c.e, .int .i64 c.p, .int .i64 c.q, .int .i64 c.r, .int .i64 c.s], .agg #[.int .i64 b.f, .int .i64 b.k, .int .i64 b.l, .int .i64 b.a, .int .i64 b.b, .int .i64 b.c, .int .i64 b.e, .int .i64 b.p, .int .i64 b.q, .int .i64 b.r, .int .i64 b.s]] w fun o w' => o = .returned (.tuple #[.agg #[.int .i64 y2.f, .int .i64 y2.k, .int .i64 y2.l, .int .i64 y2.a, .int .i64 y2.b, .int .i64 y2.c, .int .i64 y2.e, .int .i64 y2.p, .int .i64 y2.q, .int .i64 y2.r, .int .i64 y2.s], .bool true]) ∧ Ext w w') := Lib.hid (fun w => th_as e4 o4 w)
            have L5 : Hid (∀ w, Calls Try.prog 37 #[.agg #[.int .i64 x2.f, .int .i64 x2.k, .int .i64 x2.l, .int .i64 x2.a, .int .i64 x2.b, .int .i64 x2.c, .int .i64 x2.e, .int .i64 x2.p, .int .i64 x2.q, .int .i64 x2.r, .int .i64 x2.s], .agg #[.int .i64 y2.f, .int .i64 y2.k, .int .i64 y2.l, .int .i64 y2.a, .int .i64 y2.b, .int .i64 y2.c, .int .i64 y2.e, .int .i64 y2.p, .int .i64 y2.q, .int .i64 y2.r, .int .i64 y2.s]] w fun o w' => o = .returned (.bool true) ∧ Ext w w') := Lib.hid (fun w => hle_as hl w)
            clear e3 e4 o3 o4 hl
            go_wp2_with (first | (go_at_call 31; ((with_reducible refine (T3.out _).mono ?_); rintro o w' ⟨rfl, x, rfl⟩)) | (go_at_call 31; ((with_reducible refine (T4.out _).mono ?_); rintro o w' ⟨rfl, x, rfl⟩)) | (go_at_call 37; ((with_reducible refine (L5.out _).mono ?_); rintro o w' ⟨rfl, x, rfl⟩)))
            go_returns
            exact ⟨retb rfl rfl, by (repeat' (first | with_reducible exact Ext.refl _ | with_reducible refine Ext.ext ?_ _ | with_reducible refine Ext.alloc ?_ _ | with_reducible refine Ext.drew ?_ | with_reducible refine Ext.drewN ?_ _ | with_reducible assumption))⟩
end Go.Proofs.Ytfdgeomomafnbaa

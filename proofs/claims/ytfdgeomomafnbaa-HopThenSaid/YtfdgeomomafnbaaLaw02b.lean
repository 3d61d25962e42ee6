/- The walk of HopThen. -/
import Derived.Test.YtfdgeomomafnbaaLaw02a
import Derived.Deep.DeepCutAuto
namespace Go.Proofs.Ytfdgeomomafnbaa
set_option linter.unusedSimpArgs false
set_option linter.unusedVariables false
open Go.RowKit

set_option synthInstance.maxHeartbeats 400000 in
set_option maxRecDepth 100000 in
set_option maxHeartbeats 40000000 in
theorem walk_HopThen (a b c : Hp) (t : Tm) (w : World) :
    Calls Try.prog 9 #[.agg #[.int .i64 a.f, .int .i64 a.k, .int .i64 a.l, .int .i64 a.a, .int .i64 a.b, .int .i64 a.c, .int .i64 a.e, .int .i64 a.p, .int .i64 a.q, .int .i64 a.r, .int .i64 a.s], .agg #[.int .i64 b.f, .int .i64 b.k, .int .i64 b.l, .int .i64 b.a, .int .i64 b.b, .int .i64 b.c, .int .i64 b.e, .int .i64 b.p, .int .i64 b.q, .int .i64 b.r, .int .i64 b.s], .agg #[.int .i64 c.f, .int .i64 c.k, .int .i64 c.l, .int .i64 c.a, .int .i64 c.b, .int .i64 c.c, .int .i64 c.e, .int .i64 c.p, .int .i64 c.q, .int .i64 c.r, .int .i64 c.s], .agg #[.int .i64 t.d, .int .i64 t.a, .int .i64 t.b, .int .i64 t.c, .int .i64 t.e]] w fun r w' => r = .returned (.bool true) ∧ Ext w w' := by
  have AW := Lib.hid (fun w => awake02 w)
  cases hab : thOk a b
  · generalize hx : thR a b = ab
    have T1 : Hid (∀ w, Calls Try.prog 31 #[.agg #[.int .i64 a.f, .int .i64 a.k, .int .i64 a.l, .int .i64 a.a, .int .i64 a.b, .int .i64 a.c, .int .i64 a.e, .int .i64 a.p, .int .i64 a.q, .int .i64 a.r, .int .i64 a.s], .agg #[.int .i64 b.f, .int .i64 b.k, .int .i64 b.l, .int .i64 b.a, .int .i64 b.b, .int .i64 b.c, .int .i64 b.e, .int .i64 b.p, .int .i64 b.q, .int .i64 b.r, .int .i64 b.s]] w fun o w' => o = .returned (.tuple #[.agg #[.int .i64 ab.f, .int .i64 ab.k, .int .i64 ab.l, .int .i64 ab.a, .int .i64 ab.b, .int .i64 ab.c, .int .i64 ab.e, .int .i64 ab.p, .int .i64 ab.q, .int .i64 ab.r, .int .i64 ab.s], .bool false]) ∧ Ext w w') := Lib.hid (fun w => th_as hx hab w)
    clear hx hab
    go_enter Try.func9, Try.ntmps9
    go_wp2_with (first | (go_at_call 30; refine (AW.out _).mono ?_; rintro r w' ⟨rfl, x, rfl⟩) | (go_at_call 31; ((with_reducible refine (T1.out _).mono ?_); rintro o w' ⟨rfl, x, rfl⟩)))
    go_returns
    exact ⟨retb rfl rfl, by (repeat' (first | with_reducible exact Ext.refl _ | with_reducible refine Ext.ext ?_ _ | with_reducible refine Ext.alloc ?_ _ | with_reducible refine Ext.drew ?_ | with_reducible refine Ext.drewN ?_ _ | with_reducible assumption))⟩
  · have hap := fun h => then_apply (a := a) (b := b) (t := t) hab h
    have has := fun h1 h2 h3 => then_assoc (a := a) (b := b) (c := c) hab h1 h2 h3
    generalize hx : thR a b = ab at hap has
    have T1 : Hid (∀ w, Calls Try.prog 31 #[.agg #[.int .i64 a.f, .int .i64 a.k, .int .i64 a.l, .int .i64 a.a, .int .i64 a.b, .int .i64 a.c, .int .i64 a.e, .int .i64 a.p, .int .i64 a.q, .int .i64 a.r, .int .i64 a.s], .agg #[.int .i64 b.f, .int .i64 b.k, .int .i64 b.l, .int .i64 b.a, .int .i64 b.b, .int .i64 b.c, .int .i64 b.e, .int .i64 b.p, .int .i64 b.q, .int .i64 b.r, .int .i64 b.s]] w fun o w' => o = .returned (.tuple #[.agg #[.int .i64 ab.f, .int .i64 ab.k, .int .i64 ab.l, .int .i64 ab.a, .int .i64 ab.b, .int .i64 ab.c, .int .i64 ab.e, .int .i64 ab.p, .int .i64 ab.q, .int .i64 ab.r, .int .i64 ab.s], .bool true]) ∧ Ext w w') := Lib.hid (fun w => th_as hx hab w)
    clear hx hab
    generalize hx : apR a t = x at hap
    generalize hat : apOk a t = va at hap
    have A1 : Hid (∀ w, Calls Try.prog 32 #[.agg #[.int .i64 a.f, .int .i64 a.k, .int .i64 a.l, .int .i64 a.a, .int .i64 a.b, .int .i64 a.c, .int .i64 a.e, .int .i64 a.p, .int .i64 a.q, .int .i64 a.r, .int .i64 a.s], .agg #[.int .i64 t.d, .int .i64 t.a, .int .i64 t.b, .int .i64 t.c, .int .i64 t.e]] w fun o w' => o = .returned (.tuple #[.agg #[.int .i64 x.d, .int .i64 x.a, .int .i64 x.b, .int .i64 x.c, .int .i64 x.e], .bool va]) ∧ Ext w w') := Lib.hid (fun w => ap_as hx hat w)
    have HAP := Lib.hid hap
    have HAS := Lib.hid has
    clear hx hat hap has
    go_enter Try.func9, Try.ntmps9
    go_upto_if 36 with (first | (go_at_call 30; refine (AW.out _).mono ?_; rintro r w' ⟨rfl, xa, rfl⟩) | (go_at_call 31; ((with_reducible refine (T1.out _).mono ?_); rintro o w' ⟨rfl, xb, rfl⟩)) | (go_at_call 32; ((with_reducible refine (A1.out _).mono ?_); rintro o w' ⟨rfl, xc, rfl⟩)))
    go_cut [8] (fun s wx => s = .bool false ∧ Ext ((ext ((((w.alloc (.cells #[.int .i64 a.f, .int .i64 a.k, .int .i64 a.l, .int .i64 a.a, .int .i64 a.b, .int .i64 a.c, .int .i64 a.e, .int .i64 a.p, .int .i64 a.q, .int .i64 a.r, .int .i64 a.s] 43)).alloc (.cells #[.int .i64 b.f, .int .i64 b.k, .int .i64 b.l, .int .i64 b.a, .int .i64 b.b, .int .i64 b.c, .int .i64 b.e, .int .i64 b.p, .int .i64 b.q, .int .i64 b.r, .int .i64 b.s] 43)).alloc (.cells #[.int .i64 c.f, .int .i64 c.k, .int .i64 c.l, .int .i64 c.a, .int .i64 c.b, .int .i64 c.c, .int .i64 c.e, .int .i64 c.p, .int .i64 c.q, .int .i64 c.r, .int .i64 c.s] 43)).alloc (.cells #[.int .i64 t.d, .int .i64 t.a, .int .i64 t.b, .int .i64 t.c, .int .i64 t.e] 29)) (xa.add xb)).alloc (.cells #[.int .i64 ab.f, .int .i64 ab.k, .int .i64 ab.l, .int .i64 ab.a, .int .i64 ab.b, .int .i64 ab.c, .int .i64 ab.e, .int .i64 ab.p, .int .i64 ab.q, .int .i64 ab.r, .int .i64 ab.s] 43)) wx)
    case first =>
      cases va
      · go_wp2
        go_meet
        exact ⟨rfl, by (repeat' (first | with_reducible exact Ext.refl _ | with_reducible refine Ext.ext ?_ _ | with_reducible refine Ext.alloc ?_ _ | with_reducible refine Ext.drew ?_ | with_reducible refine Ext.drewN ?_ _ | with_reducible assumption))⟩
      · obtain ⟨hap1, hap2⟩ := HAP.out rfl
        generalize hy : apR b x = y at hap2
        generalize hv : apOk b x = v at hap1
        have A2 : Hid (∀ w, Calls Try.prog 32 #[.agg #[.int .i64 b.f, .int .i64 b.k, .int .i64 b.l, .int .i64 b.a, .int .i64 b.b, .int .i64 b.c, .int .i64 b.e, .int .i64 b.p, .int .i64 b.q, .int .i64 b.r, .int .i64 b.s], .agg #[.int .i64 x.d, .int .i64 x.a, .int .i64 x.b, .int .i64 x.c, .int .i64 x.e]] w fun o w' => o = .returned (.tuple #[.agg #[.int .i64 y.d, .int .i64 y.a, .int .i64 y.b, .int .i64 y.c, .int .i64 y.e], .bool v]) ∧ Ext w w') := Lib.hid (fun w => ap_as hy hv w)
        have A3 : Hid (∀ w, Calls Try.prog 32 #[.agg #[.int .i64 ab.f, .int .i64 ab.k, .int .i64 ab.l, .int .i64 ab.a, .int .i64 ab.b, .int .i64 ab.c, .int .i64 ab.e, .int .i64 ab.p, .int .i64 ab.q, .int .i64 ab.r, .int .i64 ab.s], .agg #[.int .i64 t.d, .int .i64 t.a, .int .i64 t.b, .int .i64 t.c, .int .i64 t.e]] w fun o w' => o = .returned (.tuple #[.agg #[.int .i64 y.d, .int .i64 y.a, .int .i64 y.b, .int .i64 y.c, .int .i64 y.e], .bool v]) ∧ Ext w w') := Lib.hid (fun w => ap_as hap2.symm hap1.symm w)
        clear hy hv hap1 hap2
        go_wp2_with (first | (go_at_call 32; ((with_reducible refine (A2.out _).mono ?_); rintro o w' ⟨rfl, x, rfl⟩)) | (go_at_call 32; ((with_reducible refine (A3.out _).mono ?_); rintro o w' ⟨rfl, x, rfl⟩)))
        go_meet
        exact ⟨rfl, by (repeat' (first | with_reducible exact Ext.refl _ | with_reducible refine Ext.ext ?_ _ | with_reducible refine Ext.alloc ?_ _ | with_reducible refine Ext.drew ?_ | with_reducible refine Ext.drewN ?_ _ | with_reducible assumption))⟩
    case rest =>
      obtain ⟨rfl, z, rfl⟩ := hcut
      clear A1 T1
      cases hbc : thOk b c
      · generalize hx : thR b c = bc
        have T2 : Hid (∀ w, Calls Try.prog 31 #[.agg #[.int .i64 b.f, .int .i64 b.k, .int .i64 b.l, .int .i64 b.a, .int .i64 b.b, .int .i64 b.c, .int .i64 b.e, .int .i64 b.p, .int .i64 b.q, .int .i64 b.r, .int .i64 b.s], .agg #[.int .i64 c.f, .int .i64 c.k, .int .i64 c.l, .int .i64 c.a, .int .i64 c.b, .int .i64 c.c, .int .i64 c.e, .int .i64 c.p, .int .i64 c.q, .int .i64 c.r, .int .i64 c.s]] w fun o w' => o = .returned (.tuple #[.agg #[.int .i64 bc.f, .int .i64 bc.k, .int .i64 bc.l, .int .i64 bc.a, .int .i64 bc.b, .int .i64 bc.c, .int .i64 bc.e, .int .i64 bc.p, .int .i64 bc.q, .int .i64 bc.r, .int .i64 bc.s], .bool false]) ∧ Ext w w') := Lib.hid (fun w => th_as hx hbc w)
        clear hx hbc
        go_wp2_with (first | (go_at_call 31; ((with_reducible refine (T2.out _).mono ?_); rintro o w' ⟨rfl, x, rfl⟩)))
        go_returns
        exact ⟨retb rfl rfl, by (repeat' (first | with_reducible exact Ext.refl _ | with_reducible refine Ext.ext ?_ _ | with_reducible refine Ext.alloc ?_ _ | with_reducible refine Ext.drew ?_ | with_reducible refine Ext.drewN ?_ _ | with_reducible assumption))⟩
      · have has := HAS.out hbc
        generalize hx : thR b c = bc at has
        have T2 : Hid (∀ w, Calls Try.prog 31 #[.agg #[.int .i64 b.f, .int .i64 b.k, .int .i64 b.l, .int .i64 b.a, .int .i64 b.b, .int .i64 b.c, .int .i64 b.e, .int .i64 b.p, .int .i64 b.q, .int .i64 b.r, .int .i64 b.s], .agg #[.int .i64 c.f, .int .i64 c.k, .int .i64 c.l, .int .i64 c.a, .int .i64 c.b, .int .i64 c.c, .int .i64 c.e, .int .i64 c.p, .int .i64 c.q, .int .i64 c.r, .int .i64 c.s]] w fun o w' => o = .returned (.tuple #[.agg #[.int .i64 bc.f, .int .i64 bc.k, .int .i64 bc.l, .int .i64 bc.a, .int .i64 bc.b, .int .i64 bc.c, .int .i64 bc.e, .int .i64 bc.p, .int .i64 bc.q, .int .i64 bc.r, .int .i64 bc.s], .bool true]) ∧ Ext w w') := Lib.hid (fun w => th_as hx hbc w)
        clear hx hbc
        cases hl : thOk ab c
        · generalize hx : thR ab c = l
          have T3 : Hid (∀ w, Calls Try.prog 31 #[.agg #[.int .i64 ab.f, .int .i64 ab.k, .int .i64 ab.l, .int .i64 ab.a, .int .i64 ab.b, .int .i64 ab.c, .int .i64 ab.e, .int .i64 ab.p, .int .i64 ab.q, .int .i64 ab.r, .int .i64 ab.s], .agg #[.int .i64 c.f, .int .i64 c.k, .int .i64 c.l, .int .i64 c.a, .int .i64 c.b, .int .i64 c.c, .int .i64 c.e, .int .i64 c.p, .int .i64 c.q, .int .i64 c.r, .int .i64 c.s]] w fun o w' => o = .returned (.tuple #[.agg #[.int .i64 l.f, .int .i64 l.k, .int .i64 l.l, .int .i64 l.a, .int .i64 l.b, .int .i64 l.c, .int .i64 l.e, .int .i64 l.p, .int .i64 l.q, .int .i64 l.r, .int .i64 l.s], .bool false]) ∧ Ext w w') := Lib.hid (fun w => th_as hx hl w)
          generalize hy : thR a bc = r
          generalize hr : thOk a bc = v
          have T4 : Hid (∀ w, Calls Try.prog 31 #[.agg #[.int .i64 a.f, .int .i64 a.k, .int .i64 a.l, .int .i64 a.a, .int .i64 a.b, .int .i64 a.c, .int .i64 a.e, .int .i64 a.p, .int .i64 a.q, .int .i64 a.r, .int .i64 a.s], .agg #[.int .i64 bc.f, .int .i64 bc.k, .int .i64 bc.l, .int .i64 bc.a, .int .i64 bc.b, .int .i64 bc.c, .int .i64 bc.e, .int .i64 bc.p, .int .i64 bc.q, .int .i64 bc.r, .int .i64 bc.s]] w fun o w' => o = .returned (.tuple #[.agg #[.int .i64 r.f, .int .i64 r.k, .int .i64 r.l, .int .i64 r.a, .int .i64 r.b, .int .i64 r.c, .int .i64 r.e, .int .i64 r.p, .int .i64 r.q, .int .i64 r.r, .int .i64 r.s], .bool v]) ∧ Ext w w') := Lib.hid (fun w => th_as hy hr w)
          clear hx hl hy hr has
          go_wp2_with (first | (go_at_call 31; ((with_reducible refine (T2.out _).mono ?_); rintro o w' ⟨rfl, x, rfl⟩)) | (go_at_call 31; ((with_reducible refine (T3.out _).mono ?_); rintro o w' ⟨rfl, x, rfl⟩)) | (go_at_call 31; ((with_reducible refine (T4.out _).mono ?_); rintro o w' ⟨rfl, x, rfl⟩)))
          go_returns
          exact ⟨retb rfl rfl, by (repeat' (first | with_reducible exact Ext.refl _ | with_reducible refine Ext.ext ?_ _ | with_reducible refine Ext.alloc ?_ _ | with_reducible refine Ext.drew ?_ | with_reducible refine Ext.drewN ?_ _ | with_reducible assumption))⟩
        · cases hr : thOk a bc
          · generalize hx : thR ab c = l
            have T3 : Hid (∀ w, Calls Try.prog 31 #[.agg #[.int .i64 ab.f, .int .i64 ab.k, .int .i64 ab.l, .int .i64 ab.a, .int .i64 ab.b, .int .i64 ab.c, .int .i64 ab.e, .int .i64 ab.p, .int .i64 ab.q, .int .i64 ab.r, .int .i64 ab.s], .agg #[.int .i64 c.f, .int .i64 c.k, .int .i64 c.l, .int .i64 c.a, .int .i64 c.b, .int .i64 c.c, .int .i64 c.e, .int .i64 c.p, .int .i64 c.q, .int .i64 c.r, .int .i64 c.s]] w fun o w' => o = .returned (.tuple #[.agg #[.int .i64 l.f, .int .i64 l.k, .int .i64 l.l, .int .i64 l.a, .int .i64 l.b, .int .i64 l.c, .int .i64 l.e, .int .i64 l.p, .int .i64 l.q, .int .i64 l.r, .int .i64 l.s], .bool true]) ∧ Ext w w') := Lib.hid (fun w => th_as hx hl w)
            generalize hy : thR a bc = r
            have T4 : Hid (∀ w, Calls Try.prog 31 #[.agg #[.int .i64 a.f, .int .i64 a.k, .int .i64 a.l, .int .i64 a.a, .int .i64 a.b, .int .i64 a.c, .int .i64 a.e, .int .i64 a.p, .int .i64 a.q, .int .i64 a.r, .int .i64 a.s], .agg #[.int .i64 bc.f, .int .i64 bc.k, .int .i64 bc.l, .int .i64 bc.a, .int .i64 bc.b, .int .i64 bc.c, .int .i64 bc.e, .int .i64 bc.p, .int .i64 bc.q, .int .i64 bc.r, .int .i64 bc.s]] w fun o w' => o = .returned (.tuple #[.agg #[.int .i64 r.f, .int .i64 r.k, .int .i64 r.l, .int .i64 r.a, .int .i64 r.b, .int .i64 r.c, .int .i64 r.e, .int .i64 r.p, .int .i64 r.q, .int .i64 r.r, .int .i64 r.s], .bool false]) ∧ Ext w w') := Lib.hid (fun w => th_as hy hr w)
            clear hx hl hy hr has
            go_wp2_with (first | (go_at_call 31; ((with_reducible refine (T2.out _).mono ?_); rintro o w' ⟨rfl, x, rfl⟩)) | (go_at_call 31; ((with_reducible refine (T3.out _).mono ?_); rintro o w' ⟨rfl, x, rfl⟩)) | (go_at_call 31; ((with_reducible refine (T4.out _).mono ?_); rintro o w' ⟨rfl, x, rfl⟩)))
            go_returns
            exact ⟨retb rfl rfl, by (repeat' (first | with_reducible exact Ext.refl _ | with_reducible refine Ext.ext ?_ _ | with_reducible refine Ext.alloc ?_ _ | with_reducible refine Ext.drew ?_ | with_reducible refine Ext.drewN ?_ _ | with_reducible assumption))⟩
          · have hy := (has hl hr).symm
            generalize hx : thR ab c = l at hy
            have T3 : Hid (∀ w, Calls Try.prog 31 #[.agg #[.int .i64 ab.f, .int .i64 ab.k, .int .i64 ab.l, .int .i64 ab.a, .int .i64 ab.b, .int .i64 ab.c, .int .i64 ab.e, .int .i64 ab.p, .int .i64 ab.q, .int .i64 ab.r, .int .i64 ab.s], .agg #[.int .i64 c.f, .int .i64 c.k, .int .i64 c.l, .int .i64 c.a, .int .i64 c.b, .int .i64 c.c, .int .i64 c.e, .int .i64 c.p, .int .i64 c.q, .int .i64 c.r, .int .i64 c.s]] w fun o w' => o = .returned (.tuple #[.agg #[.int .i64 l.f, .int .i64 l.k, .int .i64 l.l, .int .i64 l.a, .int .i64 l.b, .int .i64 l.c, .int .i64 l.e, .int .i64 l.p, .int .i64 l.q, .int .i64 l.r, .int .i64 l.s], .bool true]) ∧ Ext w w') := Lib.hid (fun w => th_as hx hl w)
            have T4 : Hid (∀ w, Calls Try.prog 31 #[.agg #[.int .i64 a.f, .int .i64 a.k, .int .i64 a.l, .int .i64 a.a, .int .i64 a.b, .int .i64 a.c, .int .i64 a.e, .int .i64 a.p, .int .i64 a.q, .int .i64 a.r, .int .i64 a.s], .agg #[.int .i64 bc.f, .int .i64 bc.k, .int .i64 bc.l, .int .i64 bc.a, .int .i64 bc.b, .int .i64 bc.c, .int .i64 bc.e, .int .i64 bc.p, .int .i64 bc.q, .int .i64 bc.r, .int .i64 bc.s]] w fun o w' => o = .returned (.tuple #[.agg #[.int .i64 l.f, .int .i64 l.k, .int .i64 l.l, .int .i64 l.a, .int .i64 l.b, .int .i64 l.c, .int .i64 l.e, .int .i64 l.p, .int .i64 l.q, .int .i64 l.r, .int .i64 l.s], .bool true]) ∧ Ext w w') := Lib.hid (fun w => th_as hy hr w)
            clear hx hl hy hr has
            go_wp2_with (first | (go_at_call 31; ((with_reducible refine (T2.out _).mono ?_); rintro o w' ⟨rfl, x, rfl⟩)) | (go_at_call 31; ((with_reducible refine (T3.out _).mono ?_); rintro o w' ⟨rfl, x, rfl⟩)) | (go_at_call 31; ((with_reducible refine (T4.out _).mono ?_); rintro o w' ⟨rfl, x, rfl⟩)))
            go_returns
            exact ⟨retb rfl rfl, by (repeat' (first | with_reducible exact Ext.refl _ | with_reducible refine Ext.ext ?_ _ | with_reducible refine Ext.alloc ?_ _ | with_reducible refine Ext.drew ?_ | with_reducible refine Ext.drewN ?_ _ | with_reducible assumption))⟩
end Go.Proofs.Ytfdgeomomafnbaa

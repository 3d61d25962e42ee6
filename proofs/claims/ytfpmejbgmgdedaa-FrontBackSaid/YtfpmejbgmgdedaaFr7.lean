/- Front: the reference's Add. -/
import Derived.Test.YtfpmejbgmgdedaaFr6
import Derived.Test.YtfpmejbgmgdedaaFrG
namespace Go.Proofs.Ytfpmejbgmgdedaa.Fr
set_option linter.unusedSimpArgs false
set_option linter.unusedVariables false
open Go.RowKit

theorem right_ne {l : List Ct} (h : rightC l = true) : ∀ x ∈ l, x.n ≠ 0 := fun x hx => by
  have := ((right_iff l).1 ((rightC_iff l).1 h).1).1 x hx
  unfold okN at this
  simp only [Bool.and_eq_true] at this
  simpa using this.1
/-- Add, as the reference does it. -/
def addQ (l : List Ct) (t : Tm) (q : Int) : List Ct := if (_root_.Go.Proofs.Ytfpmejbgmgdedaa.rightB t && (rightC l && mayB q)) then (match fld t q l with
    | none => l
    | some (O, d) => if d then O else O ++ [ctOf t q]) else l
theorem addQ_eq (l : List Ct) (t : Tm) (q : Int) : addQ l t q = addS l t q := by
  unfold addQ addS
  cases hr : rightC l
  · simp
  · rw [putS_eq hr]
    cases ht : _root_.Go.Proofs.Ytfpmejbgmgdedaa.rightB t
    · simp
    · have h := addR_eq l t q
      unfold addR addI at h
      rw [((rightC_iff l).1 hr).1] at h
      simp only [Bool.true_and, if_true] at h ⊢
      exact h
theorem less_ord {t u : Tm} (h1 : _root_.Go.Proofs.Ytfpmejbgmgdedaa.rightB t = true) (h2 : _root_.Go.Proofs.Ytfpmejbgmgdedaa.rightB u = true) : lessB t u = decide (ordR t u < 0) := by
  rw [Bool.eq_iff_iff, lessB_iff, decide_eq_true_eq, ordR_lt]
  simp [h1, h2]
set_option maxRecDepth 100000 in
set_option maxHeartbeats 8000000 in
theorem refAdd_row {w : World} {l : List Ct} {v : Value} (h : Rb w l v) (hn : l.length ≤ 1073741822) (t : Tm) (q : Int) :
    Calls Try.prog 29 #[v, .agg #[.int .i64 t.d, .int .i64 t.a, .int .i64 t.b, .int .i64 t.c, .int .i64 t.e], .int .i64 q] w fun e w' => ∃ v', e = .returned v' ∧ Row w w.heap.size (addS l t q) v' w' := by
  obtain ⟨a, c, rfl, h⟩ := h
  obtain ⟨R, hR⟩ : ∃ R, R = addQ l t q := ⟨_, rfl⟩
  rw [← addQ_eq, ← hR]
  have RT := Lib.hid (fun w' (hx : Ext w w') => refRight_any l a _ c w' (h.of_ext hx) rfl (by omega))
  have LT := Lib.hid (fun w' => list_any t w')
  have H := Lib.hid h
  have HN := Lib.hid hn
  obtain ⟨rt, ft⟩ : ∃ b, _root_.Go.Proofs.Ytfpmejbgmgdedaa.rightB t = b := ⟨_, rfl⟩
  obtain ⟨rb, f⟩ : ∃ b, rightC l = b := ⟨_, rfl⟩
  obtain ⟨c1, g1⟩ : ∃ b, decide (2147483648 < q) = b := ⟨_, rfl⟩
  obtain ⟨c2, g2⟩ : ∃ b, decide (q < -2147483648) = b := ⟨_, rfl⟩
  have hm : mayB q = (!c1 && !c2) := by
    subst g1 g2
    rw [Bool.eq_iff_iff, mayB_iff]
    simp only [Bool.and_eq_true, Bool.not_eq_true', decide_eq_false_iff_not]
    omega
  rw [f] at RT
  rw [ft] at LT
  have key : R = if (rt && (rb && (!c1 && !c2))) then (match fld t q l with
    | none => l
    | some (O, d) => if d then O else O ++ [ctOf t q]) else l := by rw [hR]; unfold addQ; rw [f, hm, ft]
  have HF := Lib.hid f
  have HFT := Lib.hid ft
  clear h hn hR f ft
  rcases Bool.eq_false_or_eq_true (rt && (rb && (!c1 && !c2))) with hk | hk
  · simp only [Bool.and_eq_true, Bool.not_eq_true'] at hk
    obtain ⟨rfl, rfl, rfl, rfl⟩ := hk
    have HM := Lib.hid (show mayB q = true from hm)
    simp only [Bool.not_false, Bool.and_self, if_true] at key
    have HR := Lib.hid key
    clear key hm
    obtain ⟨T, hT⟩ : ∃ T, T = t := ⟨_, rfl⟩
    rw [← hT] at HR HFT
    have HTT := Lib.hid hT
    clear hT
    obtain ⟨td, ta, tb, tc, te⟩ := t
    dsimp only at LT ⊢
    go_enter Try.func29, Try.ntmps29
    go_wp2_with (first | (at_builtin; refine app_new _ rfl _ _ rfl _ rfl (by simp) l _ rfl ⟨a, c, rfl, H.out.of_ext (by (repeat' (first | with_reducible exact Ext.refl _ | with_reducible refine Ext.ext ?_ _ | with_reducible refine Ext.alloc ?_ _ | with_reducible refine Ext.drew ?_ | with_reducible refine Ext.drewN ?_ _ | with_reducible assumption)))⟩ (by have := HN.out; omega) ?_; intro vs w1 hb; have k0 := (keep_cell (b := w.heap.size) (i := 0) (u := .int .i64 td) (by simp) hb.1).2; have k1 := (keep_cell (b := w.heap.size) (i := 1) (u := .int .i64 ta) (by simp) hb.1).2; have k2 := (keep_cell (b := w.heap.size) (i := 2) (u := .int .i64 tb) (by simp) hb.1).2; have k3 := (keep_cell (b := w.heap.size) (i := 3) (u := .int .i64 tc) (by simp) hb.1).2; have k4 := (keep_cell (b := w.heap.size) (i := 4) (u := .int .i64 te) (by simp) hb.1).2; have HX := Lib.hid (((Ext.refl w).alloc _).trans hb.1); have HS := Lib.hid hb; clear hb) | (go_at_call 45; (with_reducible refine (LT.out _).mono ?_); rintro e w' ⟨a5, n5, c5, rfl, x5, rfl⟩) | (go_at_call 27; (with_reducible refine (RT.out _ (Ext.trans HX.out (by (repeat' (first | with_reducible exact Ext.refl _ | with_reducible refine Ext.ext ?_ _ | with_reducible refine Ext.alloc ?_ _ | with_reducible refine Ext.drew ?_ | with_reducible refine Ext.drewN ?_ _ | with_reducible assumption))))).mono ?_); rintro e w' ⟨rfl, x1, rfl⟩))
    haveI : LtSz w.heap.size w1.heap.size := ⟨World.block_lt_of_cell? _ _ k0⟩
    go_loopw [10, 11, 12] (fun v d i wr => ∃ (j : Nat) (O : List Ct) (dd : Bool), j ≤ l.length ∧ i = .int .i64 j ∧ d = .bool dd ∧ fld T q (l.take j) = some (O, (dd || q == 0)) ∧ Row w1 w1.heap.size O v wr) (fun _ _ i _ => l.length - (intOf i).toNat)
    case atStart => exact ⟨0, [], _, by omega, rfl, rfl, rfl, (Row.nil w1 _).on (by (repeat' (first | with_reducible exact Ext.refl _ | with_reducible refine Ext.ext ?_ _ | with_reducible refine Ext.alloc ?_ _ | with_reducible refine Ext.drew ?_ | with_reducible refine Ext.drewN ?_ _ | with_reducible assumption)))⟩
    case round =>
      obtain ⟨j, O, d, hj, rfl, rfl, hf, hb⟩ := hrel
      obtain ⟨z', rfl⟩ := hb.1
      have HB := Lib.hid hb
      have HFL := Lib.hid hf
      have hol := fld_len T q (l.take j) [] (q == 0) O _ hf
      rw [List.length_take] at hol
      have hol2 : O.length ≤ l.length + 1 := by
        have e1 : (if (d || q == 0) = true then 0 else 1) ≤ 1 := by split <;> omega
        have e2 : (if (q == 0) = true then 0 else 1) ≤ 1 := by split <;> omega
        rw [List.length_nil] at hol
        omega
      have HOL := Lib.hid (show O.length ≤ 1073741823 by have := HN.out; omega)
      have HOL2 := Lib.hid (show (d || q == 0) = false → O.length ≤ l.length by
        intro hd
        have e2 : (if (q == 0) = true then 0 else 1) ≤ 1 := by split <;> omega
        rw [List.length_nil, hd] at hol
        simp only [Bool.false_eq_true, if_false] at hol
        omega)
      clear hb hf hol hol2
      have L1 := Lib.hid (H.out.of_ext HX.out)
      by_cases hlt : j < l.length
      · obtain ⟨x, hx⟩ : ∃ x, l[j]? = some x := ⟨l[j], List.getElem?_eq_getElem _⟩
        obtain ⟨b, off, rfl, -⟩ := L1.out.cells (by omega)
        obtain ⟨q0, q1, q2, q3, q4, q5⟩ := cts_at L1.out j x hx
        haveI : LtSz b w1.heap.size := ⟨World.block_lt_of_cell? _ _ q0⟩
        have i1 : (0 : Int) ≤ j := by omega
        have i2 : (j : Int) < l.length := by omega
        have hN := nOf HF.out (List.mem_of_getElem? hx)
        have hQ := (mayB_iff q).1 HM.out
        have ew : wrap64 ((j : Int) + 1) = ((j + 1 : Nat) : Int) := (IntWalk.wrap64_in _ ⟨by omega, by have := HN.out; omega⟩).trans (by omega)
        have ews : wrap64 (x.n + q) = x.n + q := IntWalk.wrap64_in _ ⟨by omega, by omega⟩
        have nz := right_ne HF.out _ (List.mem_of_getElem? hx)
        have hrx := ((rightC_iff l).1 HF.out).2 _ (List.mem_of_getElem? hx)
        have ST := Lib.hid (show fld T q (l.take (j + 1)) = stp T q (some (O, (d || q == 0))) x by rw [fld_snoc _ _ hx, HFL.out])
        have LS := Lib.hid (fun w => ref_less_any td ta tb tc te x.d x.a x.b x.c x.e w)
        have hl2 := less_ord HFT.out hrx
        obtain ⟨be, fe⟩ : ∃ b, eqT x.t T = b := ⟨_, rfl⟩
        have EQ := eqT_iff x.t T
        rw [fe] at EQ
        rw [HTT.out] at fe
        unfold eqT Ct.t at fe
        obtain ⟨X, hX⟩ : ∃ X, X = x := ⟨_, rfl⟩
        rw [← hX] at ST EQ
        have HXX := Lib.hid hX
        have hXn : X.n = x.n := by rw [hX]
        have hXt : X.t = x.t := by rw [hX]
        have hless : lessB ⟨td, ta, tb, tc, te⟩ ⟨x.d, x.a, x.b, x.c, x.e⟩ = decide (ordR T X.t < 0) := by
          rw [hXt, ← hl2, HTT.out]
          rfl
        rw [hless] at LS
        have HPX := Lib.hid (fun s : Int => show (⟨x.d, x.a, x.b, x.c, x.e, s⟩ : Ct) = { X with n := s } by rw [hX])
        have HP0 := Lib.hid (show (⟨x.d, x.a, x.b, x.c, x.e, x.n⟩ : Ct) = X by rw [hX])
        have HPT := Lib.hid (fun s : Int => show (⟨td, ta, tb, tc, te, s⟩ : Ct) = ctOf T s by rw [HTT.out]; rfl)
        have HPE := Lib.hid (show X.t = T → ∀ s : Int, (⟨td, ta, tb, tc, te, s⟩ : Ct) = { X with n := s } from fun e s => by
          have e1 : T = ⟨td, ta, tb, tc, te⟩ := HTT.out
          rw [e1] at e
          obtain ⟨ad, aa, ab, ac, ae, an⟩ := X
          unfold Ct.t at e
          dsimp only at e
          cases e
          rfl)
        clear hX hl2 hrx hx hXt hless
        obtain ⟨xd, xa, xb, xc, xe, xn⟩ := x
        dsimp only at q0 q1 q2 q3 q4 q5 ews nz fe LS hN HPX HP0 hXn
        have nz' : (xn != 0) = true := by simp [nz]
        have HN2 := Lib.hid hN
        have st := ST.out
        unfold stp at st
        dsimp only at st
        rw [hXn] at st
        clear hN hQ nz ST hXn
        cases be
        · have fr : ¬ X.t = T := fun e => by have := EQ.2 e; cases this
          rw [if_neg fr] at st
          clear EQ fr
          cases d
          · obtain ⟨qz, hqz⟩ : ∃ b, (q == 0) = b := ⟨_, rfl⟩
            have hqz' : (q != 0) = !qz := by rw [← hqz]; rfl
            have HQZ := Lib.hid hqz
            cases qz
            · obtain ⟨bl, fl⟩ : ∃ b, decide (ordR T X.t < 0) = b := ⟨_, rfl⟩
              rw [fl] at LS
              rw [fl, hqz] at st
              have HO3 := Lib.hid (HOL2.out (by rw [hqz]; rfl))
              cases bl
              · have HST := Lib.hid (show fld T q (l.take (j + 1)) = some (O ++ [X], (false || q == 0)) by rw [HQZ.out]; exact st)
                clear st fl hqz
                go_wp2
                refine wp_region_ext (by kernel_rfl) (by kernel_rfl) ?_
                repeat (go_big_quiet_step (fail))
                refine wpQuiet_nil ?_
                intro xK
                go_wp2
                refine wp_region_ext (by kernel_rfl) (by kernel_rfl) ?_
                repeat (go_big_quiet_step (first | (go_at_call 47; (apply quiet_of; (with_reducible exact LS.out _); (intro w' hx; obtain ⟨z, rfl⟩ := hx; (try simp only [ext_ext, add_assoc]); exact ⟨_, rfl⟩)))))
                refine wpQuiet_nil ?_
                intro xK
                go_wp2_with (at_builtin; refine push_row rfl _ _ rfl w1 _ O _ (by exact HB.out.on (by (first | (with_reducible exact ext_more2 _ _ _) | (repeat' (first | with_reducible exact Ext.refl _ | with_reducible refine Ext.ext ?_ _ | with_reducible refine Ext.alloc ?_ _ | with_reducible refine Ext.drew ?_ | with_reducible refine Ext.drewN ?_ _ | with_reducible assumption))))) _ _ rfl rfl (by simp) (by have := HOL.out; omega) ⟨xd, xa, xb, xc, xe, xn⟩ ?_; intro v2 w2 hb2; rw [HP0.out] at hb2; obtain ⟨z2, rfl⟩ := hb2.1; have HB2 := Lib.hid hb2; clear hb2)
                exact ⟨⟨j + 1, _, _, by omega, congrArg (Value.int .i64) ew, rfl, HST.out, HB2.out⟩, by rw [ew]; simp only [intOf]; omega⟩
              · have HST := Lib.hid (show fld T q (l.take (j + 1)) = some (O ++ [ctOf T q] ++ [X], (true || q == 0)) from st)
                clear st fl hqz
                go_wp2
                refine wp_region_ext (by kernel_rfl) (by kernel_rfl) ?_
                repeat (go_big_quiet_step (fail))
                refine wpQuiet_nil ?_
                intro xK
                go_wp2
                refine wp_region_ext (by kernel_rfl) (by kernel_rfl) ?_
                repeat (go_big_quiet_step (first | (go_at_call 47; (apply quiet_of; (with_reducible exact LS.out _); (intro w' hx; obtain ⟨z, rfl⟩ := hx; (try simp only [ext_ext, add_assoc]); exact ⟨_, rfl⟩)))))
                refine wpQuiet_nil ?_
                intro xK
                go_wp2_with (first | (at_builtin; refine push_row rfl _ _ rfl w1 _ (O ++ [ctOf T q]) _ (by exact HB2.out.on (by (first | (with_reducible exact ext_more2 _ _ _) | (repeat' (first | with_reducible exact Ext.refl _ | with_reducible refine Ext.ext ?_ _ | with_reducible refine Ext.alloc ?_ _ | with_reducible refine Ext.drew ?_ | with_reducible refine Ext.drewN ?_ _ | with_reducible assumption))))) _ _ rfl rfl (by simp) (by rw [List.length_append, List.length_singleton]; have := HO3.out; have := HN.out; omega) ⟨xd, xa, xb, xc, xe, xn⟩ ?_; intro v3 w3 hb3; rw [HP0.out] at hb3; obtain ⟨z3, rfl⟩ := hb3.1; have HB3 := Lib.hid hb3; clear hb3) | (at_builtin; refine push_row rfl _ _ rfl w1 _ O _ (by exact HB.out.on (by (first | (with_reducible exact ext_more2 _ _ _) | (repeat' (first | with_reducible exact Ext.refl _ | with_reducible refine Ext.ext ?_ _ | with_reducible refine Ext.alloc ?_ _ | with_reducible refine Ext.drew ?_ | with_reducible refine Ext.drewN ?_ _ | with_reducible assumption))))) _ _ rfl rfl (by simp) (by have := HOL.out; omega) ⟨td, ta, tb, tc, te, q⟩ ?_; intro v2 w2 hb2; rw [HPT.out] at hb2; obtain ⟨z2, rfl⟩ := hb2.1; have HB2 := Lib.hid hb2; clear hb2))
                exact ⟨⟨j + 1, _, _, by omega, congrArg (Value.int .i64) ew, rfl, HST.out, HB3.out⟩, by rw [ew]; simp only [intOf]; omega⟩
            · rw [hqz] at st
              have HST := Lib.hid (show fld T q (l.take (j + 1)) = some (O ++ [X], (false || q == 0)) by rw [HQZ.out]; exact st)
              clear st hqz
              go_wp2
              refine wp_region_ext (by kernel_rfl) (by kernel_rfl) ?_
              repeat (go_big_quiet_step (fail))
              refine wpQuiet_nil ?_
              intro xK
              go_wp2
              refine wp_region_ext (by kernel_rfl) (by kernel_rfl) ?_
              repeat (go_big_quiet_step (fail))
              refine wpQuiet_nil ?_
              intro xK
              go_wp2_with (at_builtin; refine push_row rfl _ _ rfl w1 _ O _ (by exact HB.out.on (by (first | (with_reducible exact ext_more2 _ _ _) | (repeat' (first | with_reducible exact Ext.refl _ | with_reducible refine Ext.ext ?_ _ | with_reducible refine Ext.alloc ?_ _ | with_reducible refine Ext.drew ?_ | with_reducible refine Ext.drewN ?_ _ | with_reducible assumption))))) _ _ rfl rfl (by simp) (by have := HOL.out; omega) ⟨xd, xa, xb, xc, xe, xn⟩ ?_; intro v2 w2 hb2; rw [HP0.out] at hb2; obtain ⟨z2, rfl⟩ := hb2.1; have HB2 := Lib.hid hb2; clear hb2)
              exact ⟨⟨j + 1, _, _, by omega, congrArg (Value.int .i64) ew, rfl, HST.out, HB2.out⟩, by rw [ew]; simp only [intOf]; omega⟩
          · have HST := Lib.hid (show fld T q (l.take (j + 1)) = some (O ++ [X], (true || q == 0)) from st)
            clear st
            go_wp2
            refine wp_region_ext (by kernel_rfl) (by kernel_rfl) ?_
            repeat (go_big_quiet_step (fail))
            refine wpQuiet_nil ?_
            intro xK
            go_wp2
            refine wp_region_ext (by kernel_rfl) (by kernel_rfl) ?_
            repeat (go_big_quiet_step (fail))
            refine wpQuiet_nil ?_
            intro xK
            go_wp2_with (at_builtin; refine push_row rfl _ _ rfl w1 _ O _ (by exact HB.out.on (by (first | (with_reducible exact ext_more2 _ _ _) | (repeat' (first | with_reducible exact Ext.refl _ | with_reducible refine Ext.ext ?_ _ | with_reducible refine Ext.alloc ?_ _ | with_reducible refine Ext.drew ?_ | with_reducible refine Ext.drewN ?_ _ | with_reducible assumption))))) _ _ rfl rfl (by simp) (by have := HOL.out; omega) ⟨xd, xa, xb, xc, xe, xn⟩ ?_; intro v2 w2 hb2; rw [HP0.out] at hb2; obtain ⟨z2, rfl⟩ := hb2.1; have HB2 := Lib.hid hb2; clear hb2)
            exact ⟨⟨j + 1, _, _, by omega, congrArg (Value.int .i64) ew, rfl, HST.out, HB2.out⟩, by rw [ew]; simp only [intOf]; omega⟩
        · have fr := EQ.1 rfl
          rw [if_pos fr] at st
          have HPE2 := Lib.hid (HPE.out fr)
          obtain ⟨m1, h1⟩ : ∃ b, decide (2147483648 < xn + q) = b := ⟨_, rfl⟩
          obtain ⟨m2, h2⟩ : ∃ b, decide (xn + q < -2147483648) = b := ⟨_, rfl⟩
          have hms : mayB (xn + q) = (!m1 && !m2) := by
            subst h1 h2
            rw [Bool.eq_iff_iff, mayB_iff]
            simp only [Bool.and_eq_true, Bool.not_eq_true', decide_eq_false_iff_not]
            omega
          rw [hms] at st
          clear fr hms EQ
          rcases Bool.eq_false_or_eq_true (!m1 && !m2) with hk | hk
          · simp only [Bool.and_eq_true, Bool.not_eq_true'] at hk
            obtain ⟨rfl, rfl⟩ := hk
            simp only [Bool.not_false, Bool.and_self, if_true] at st
            by_cases hz : xn + q = 0
            · have hz' : (xn + q != 0) = false := by simp [hz]
              rw [if_pos hz] at st
              have HST := Lib.hid (show fld T q (l.take (j + 1)) = some (O, (true || q == 0)) from st)
              clear st hz
              go_wp2
              refine wp_region_ext (by kernel_rfl) (by kernel_rfl) ?_
              repeat (go_big_quiet_step (fail))
              refine wpQuiet_nil ?_
              intro xK
              go_wp2
              exact ⟨⟨j + 1, _, _, by omega, congrArg (Value.int .i64) ew, rfl, HST.out, HB.out.on (by (first | (with_reducible exact ext_more2 _ _ _) | (repeat' (first | with_reducible exact Ext.refl _ | with_reducible refine Ext.ext ?_ _ | with_reducible refine Ext.alloc ?_ _ | with_reducible refine Ext.drew ?_ | with_reducible refine Ext.drewN ?_ _ | with_reducible assumption))))⟩, by rw [ew]; simp only [intOf]; omega⟩
            · have hz' : (xn + q != 0) = true := by simp [hz]
              rw [if_neg hz] at st
              have HST := Lib.hid (show fld T q (l.take (j + 1)) = some (O ++ [{ X with n := xn + q }], (true || q == 0)) from st)
              clear st hz
              go_wp2
              refine wp_region_ext (by kernel_rfl) (by kernel_rfl) ?_
              repeat (go_big_quiet_step (fail))
              refine wpQuiet_nil ?_
              intro xK
              go_wp2_with (at_builtin; refine push_row rfl _ _ rfl w1 _ O _ (by exact HB.out.on (by (first | (with_reducible exact ext_more2 _ _ _) | (repeat' (first | with_reducible exact Ext.refl _ | with_reducible refine Ext.ext ?_ _ | with_reducible refine Ext.alloc ?_ _ | with_reducible refine Ext.drew ?_ | with_reducible refine Ext.drewN ?_ _ | with_reducible assumption))))) _ _ rfl rfl (by simp) (by have := HOL.out; omega) ⟨td, ta, tb, tc, te, xn + q⟩ ?_; intro v2 w2 hb2; rw [HPE2.out] at hb2; obtain ⟨z2, rfl⟩ := hb2.1; have HB2 := Lib.hid hb2; clear hb2)
              exact ⟨⟨j + 1, _, _, by omega, congrArg (Value.int .i64) ew, rfl, HST.out, HB2.out⟩, by rw [ew]; simp only [intOf]; omega⟩
          · rw [hk] at st
            have HRL := Lib.hid (show l = R by rw [HR.out, fld_none T q (j := j + 1) st])
            clear st
            cases m1
            · cases m2
              · simp at hk
              · clear hk
                go_wp2
                refine wp_region_ext (by kernel_rfl) (by kernel_rfl) ?_
                repeat (go_big_quiet_step (fail))
                refine wpQuiet_nil ?_
                intro xK
                go_wp2
                go_returns
                exact ⟨_, rfl, by rw [← HRL.out]; exact Row.from0 (HS.out.on (by (repeat' (first | with_reducible exact Ext.refl _ | with_reducible refine Ext.ext ?_ _ | with_reducible refine Ext.alloc ?_ _ | with_reducible refine Ext.drew ?_ | with_reducible refine Ext.drewN ?_ _ | with_reducible assumption)))) (by (repeat' (first | with_reducible exact Ext.refl _ | with_reducible refine Ext.ext ?_ _ | with_reducible refine Ext.alloc ?_ _ | with_reducible refine Ext.drew ?_ | with_reducible refine Ext.drewN ?_ _ | with_reducible assumption)))⟩
            · clear hk
              go_wp2
              refine wp_region_ext (by kernel_rfl) (by kernel_rfl) ?_
              repeat (go_big_quiet_step (fail))
              refine wpQuiet_nil ?_
              intro xK
              go_wp2
              go_returns
              exact ⟨_, rfl, by rw [← HRL.out]; exact Row.from0 (HS.out.on (by (repeat' (first | with_reducible exact Ext.refl _ | with_reducible refine Ext.ext ?_ _ | with_reducible refine Ext.alloc ?_ _ | with_reducible refine Ext.drew ?_ | with_reducible refine Ext.drewN ?_ _ | with_reducible assumption)))) (by (repeat' (first | with_reducible exact Ext.refl _ | with_reducible refine Ext.ext ?_ _ | with_reducible refine Ext.alloc ?_ _ | with_reducible refine Ext.drew ?_ | with_reducible refine Ext.drewN ?_ _ | with_reducible assumption)))⟩
      · obtain rfl : j = l.length := by omega
        have hf := HFL.out
        rw [List.take_length] at hf
        have hr := HR.out
        rw [hf] at hr
        dsimp only at hr
        have HPT := Lib.hid (fun s : Int => show (⟨td, ta, tb, tc, te, s⟩ : Ct) = ctOf T s by rw [HTT.out]; rfl)
        obtain ⟨qz, hqz⟩ : ∃ b, (q == 0) = b := ⟨_, rfl⟩
        have hqz' : (q != 0) = !qz := by rw [← hqz]; rfl
        rw [hqz] at hr
        cases d
        · cases qz
          · have HRL := Lib.hid (show O ++ [ctOf T q] = R from hr.symm)
            clear hf hr hqz
            go_wp2_with (at_builtin; refine push_row rfl _ _ rfl w1 _ O _ (by exact HB.out.on (by (first | (with_reducible exact ext_more2 _ _ _) | (repeat' (first | with_reducible exact Ext.refl _ | with_reducible refine Ext.ext ?_ _ | with_reducible refine Ext.alloc ?_ _ | with_reducible refine Ext.drew ?_ | with_reducible refine Ext.drewN ?_ _ | with_reducible assumption))))) _ _ rfl rfl (by simp) (by have := HOL.out; omega) ⟨td, ta, tb, tc, te, q⟩ ?_; intro v2 w2 hb2; rw [HPT.out] at hb2; obtain ⟨z2, rfl⟩ := hb2.1; have HB2 := Lib.hid hb2; clear hb2)
            go_returns
            exact ⟨_, rfl, by rw [← HRL.out]; exact Row.from0 HB2.out HX.out⟩
          · have HRL := Lib.hid (show O = R from hr.symm)
            clear hf hr hqz
            go_wp2
            go_returns
            exact ⟨_, rfl, by rw [← HRL.out]; exact Row.from0 (HB.out.on (by (first | (with_reducible exact ext_more2 _ _ _) | (repeat' (first | with_reducible exact Ext.refl _ | with_reducible refine Ext.ext ?_ _ | with_reducible refine Ext.alloc ?_ _ | with_reducible refine Ext.drew ?_ | with_reducible refine Ext.drewN ?_ _ | with_reducible assumption))))) HX.out⟩
        · have HRL := Lib.hid (show O = R from hr.symm)
          clear hf hr hqz
          go_wp2
          go_returns
          exact ⟨_, rfl, by rw [← HRL.out]; exact Row.from0 (HB.out.on (by (first | (with_reducible exact ext_more2 _ _ _) | (repeat' (first | with_reducible exact Ext.refl _ | with_reducible refine Ext.ext ?_ _ | with_reducible refine Ext.alloc ?_ _ | with_reducible refine Ext.drew ?_ | with_reducible refine Ext.drewN ?_ _ | with_reducible assumption))))) HX.out⟩
  · have HRL := Lib.hid (show l = R by rw [key, hk]; rfl)
    clear key hm
    obtain ⟨td, ta, tb, tc, te⟩ := t
    dsimp only at LT ⊢
    cases rt <;> cases rb <;> cases c1 <;> cases c2 <;> first | (exfalso; simp at hk; done) | skip
    all_goals
      clear hk
      go_enter Try.func29, Try.ntmps29
      go_wp2_with (first | (at_builtin; refine app_new _ rfl _ _ rfl _ rfl (by simp) l _ rfl ⟨a, c, rfl, H.out.of_ext (by (repeat' (first | with_reducible exact Ext.refl _ | with_reducible refine Ext.ext ?_ _ | with_reducible refine Ext.alloc ?_ _ | with_reducible refine Ext.drew ?_ | with_reducible refine Ext.drewN ?_ _ | with_reducible assumption)))⟩ (by have := HN.out; omega) ?_; intro vs w1 hb; have k0 := (keep_cell (b := w.heap.size) (i := 0) (u := .int .i64 td) (by simp) hb.1).2; have k1 := (keep_cell (b := w.heap.size) (i := 1) (u := .int .i64 ta) (by simp) hb.1).2; have k2 := (keep_cell (b := w.heap.size) (i := 2) (u := .int .i64 tb) (by simp) hb.1).2; have k3 := (keep_cell (b := w.heap.size) (i := 3) (u := .int .i64 tc) (by simp) hb.1).2; have k4 := (keep_cell (b := w.heap.size) (i := 4) (u := .int .i64 te) (by simp) hb.1).2; have HX := Lib.hid (((Ext.refl w).alloc _).trans hb.1); have HS := Lib.hid hb; clear hb) | (go_at_call 45; (with_reducible refine (LT.out _).mono ?_); rintro e w' ⟨a5, n5, c5, rfl, x5, rfl⟩) | (go_at_call 27; (with_reducible refine (RT.out _ (Ext.trans HX.out (by (repeat' (first | with_reducible exact Ext.refl _ | with_reducible refine Ext.ext ?_ _ | with_reducible refine Ext.alloc ?_ _ | with_reducible refine Ext.drew ?_ | with_reducible refine Ext.drewN ?_ _ | with_reducible assumption))))).mono ?_); rintro e w' ⟨rfl, x1, rfl⟩))
      go_returns
      exact ⟨_, rfl, by rw [← HRL.out]; exact Row.from0 (HS.out.on (by (repeat' (first | with_reducible exact Ext.refl _ | with_reducible refine Ext.ext ?_ _ | with_reducible refine Ext.alloc ?_ _ | with_reducible refine Ext.drew ?_ | with_reducible refine Ext.drewN ?_ _ | with_reducible assumption)))) (by (repeat' (first | with_reducible exact Ext.refl _ | with_reducible refine Ext.ext ?_ _ | with_reducible refine Ext.alloc ?_ _ | with_reducible refine Ext.drew ?_ | with_reducible refine Ext.drewN ?_ _ | with_reducible assumption)))⟩
end Go.Proofs.Ytfpmejbgmgdedaa.Fr

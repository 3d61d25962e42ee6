/- Steps: a copy of a box, and Apply's beginning. -/
import Derived.Test.YtkmgdejpdhlleaaMem
import Derived.Laws.IdiomCopy
import Derived.Deep.RegionLaw
import Derived.Test.YtkmgdejpdhlleaaHop4
import Derived.Test.YtkmgdejpdhlleaaTs1
namespace Go.Proofs.Ytkmgdejpdhlleaa
set_option linter.unusedSimpArgs false
set_option linter.unusedVariables false
set_option maxRecDepth 100000
open Go.RowKit

section
variable {P : Program} {ops : Array Oper} {o : Oper} {a : Act} {w : World} {K : Act → World → Prop} {Q : Exit → Act → World → Prop} {E : Prop}
/-- A builtin whose run is known, at a step of a region that draws its order. -/
theorem step_copy_run (hgd : o.guard = none) (d s : Operand) (dT sT : TypeId) (ho : o.op = .call { callee := .builtin .copy, args := #[d, s], argTypes := #[dT, sT] })
    (vd vs : Value) (hd : a.eval d = vd) (hs : a.eval s = vs) (v : Value) (w' : World) (hrun : (Builtin.copy_ #[dT, sT] o.type #[vd, vs]).run P w = .ok v w') (h : K (a.put o.dst v) w') :
    if Region.wanted o (yielded ops a.tmps) = true then Oper.wp P o a w K Q else E := by
  have hw : Region.wanted o (yielded ops a.tmps) = true := by simp [Region.wanted, hgd]
  rw [if_pos hw]
  unfold Oper.wp
  simp [execOp, ho, resolve, invoke, builtin, hd, hs, hrun, Result.andThen]
  exact h

variable (dT sT ty elem : TypeId) (b i dL dC b' i' sC : Nat) (hu : P.underlying dT = some (.slice elem)) (hsz : (P.info? elem).map (·.size) = some 1)
include hu hsz
theorem run_copyN (cs : List Value) (hn : cs.length ≤ dL) (hsrc : ∀ j v, cs[j]? = some v → w.cell? ⟨b', i' + j, none⟩ = some v) (hc : ∀ j, j < cs.length → (w.cell? ⟨b, i + j, none⟩).isSome = true) (hf : ∀ j, j < cs.length → w.frozen? ⟨b, i + j, none⟩ = false) (h1 : ∀ v ∈ cs, v.oneCell' = true) :
    (Builtin.copy_ #[dT, sT] ty #[.slice (some ⟨b, i, none⟩) dL dC, .slice (some ⟨b', i', none⟩) cs.length sC]).run P w = .ok (goInt cs.length) (w.setCells b i cs) :=
  run_copy_cells w dT sT ty elem b i dL dC ⟨b', i', none⟩ cs.length sC cs hu hsz (by simp [Nat.min_eq_left hn]) (fun j v hv => by
    rw [show (⟨b', i', none⟩ : Addr).add j = ⟨b', i' + j, none⟩ by unfold Addr.add; split <;> simp_all]
    exact hsrc j v hv) hc hf h1
theorem run_copy1 (v0 u0 : Value) (hn : 1 ≤ dL) (s0 : w.cell? ⟨b', i', none⟩ = some v0) (c0 : w.cell? ⟨b, i, none⟩ = some u0) (f0 : w.frozen? ⟨b, i, none⟩ = false) (h0 : v0.oneCell' = true) :
    (Builtin.copy_ #[dT, sT] ty #[.slice (some ⟨b, i, none⟩) dL dC, .slice (some ⟨b', i', none⟩) 1 sC]).run P w = .ok (goInt 1) (w.setCell ⟨b, i, none⟩ v0) :=
  run_copyN dT sT ty elem b i dL dC b' i' sC hu hsz [v0] (by simpa using hn) (fun j v hv => by rcases j with _ | j <;> simp_all) (fun j hj => by rcases j with _ | j <;> simp_all) (fun j hj => by rcases j with _ | j <;> simp_all) (by simpa using h0)
theorem run_copy2 (v0 v1 u0 u1 : Value) (hn : 2 ≤ dL) (s0 : w.cell? ⟨b', i', none⟩ = some v0) (s1 : w.cell? ⟨b', i' + 1, none⟩ = some v1) (c0 : w.cell? ⟨b, i, none⟩ = some u0) (c1 : w.cell? ⟨b, i + 1, none⟩ = some u1) (f0 : w.frozen? ⟨b, i, none⟩ = false) (f1 : w.frozen? ⟨b, i + 1, none⟩ = false) (h0 : v0.oneCell' = true) (h1 : v1.oneCell' = true) :
    (Builtin.copy_ #[dT, sT] ty #[.slice (some ⟨b, i, none⟩) dL dC, .slice (some ⟨b', i', none⟩) 2 sC]).run P w = .ok (goInt 2) ((w.setCell ⟨b, i, none⟩ v0).setCell ⟨b, i + 1, none⟩ v1) :=
  run_copyN dT sT ty elem b i dL dC b' i' sC hu hsz [v0, v1] (by simpa using hn) (fun j v hv => by rcases j with _ | _ | j <;> simp_all) (fun j hj => by rcases j with _ | _ | j <;> simp_all; omega) (fun j hj => by rcases j with _ | _ | j <;> simp_all; omega) (by simp [h0, h1])
theorem run_copy3 (v0 v1 v2 u0 u1 u2 : Value) (hn : 3 ≤ dL) (s0 : w.cell? ⟨b', i', none⟩ = some v0) (s1 : w.cell? ⟨b', i' + 1, none⟩ = some v1) (s2 : w.cell? ⟨b', i' + 2, none⟩ = some v2) (c0 : w.cell? ⟨b, i, none⟩ = some u0) (c1 : w.cell? ⟨b, i + 1, none⟩ = some u1) (c2 : w.cell? ⟨b, i + 2, none⟩ = some u2) (f0 : w.frozen? ⟨b, i, none⟩ = false) (f1 : w.frozen? ⟨b, i + 1, none⟩ = false) (f2 : w.frozen? ⟨b, i + 2, none⟩ = false) (h0 : v0.oneCell' = true) (h1 : v1.oneCell' = true) (h2 : v2.oneCell' = true) :
    (Builtin.copy_ #[dT, sT] ty #[.slice (some ⟨b, i, none⟩) dL dC, .slice (some ⟨b', i', none⟩) 3 sC]).run P w = .ok (goInt 3) (((w.setCell ⟨b, i, none⟩ v0).setCell ⟨b, i + 1, none⟩ v1).setCell ⟨b, i + 1 + 1, none⟩ v2) :=
  run_copyN dT sT ty elem b i dL dC b' i' sC hu hsz [v0, v1, v2] (by simpa using hn) (fun j v hv => by rcases j with _ | _ | _ | j <;> simp_all) (fun j hj => by rcases j with _ | _ | _ | j <;> simp_all; omega) (fun j hj => by rcases j with _ | _ | _ | j <;> simp_all; omega) (by simp [h0, h1, h2])
theorem run_copy4 (v0 v1 v2 v3 u0 u1 u2 u3 : Value) (hn : 4 ≤ dL) (s0 : w.cell? ⟨b', i', none⟩ = some v0) (s1 : w.cell? ⟨b', i' + 1, none⟩ = some v1) (s2 : w.cell? ⟨b', i' + 2, none⟩ = some v2) (s3 : w.cell? ⟨b', i' + 3, none⟩ = some v3) (c0 : w.cell? ⟨b, i, none⟩ = some u0) (c1 : w.cell? ⟨b, i + 1, none⟩ = some u1) (c2 : w.cell? ⟨b, i + 2, none⟩ = some u2) (c3 : w.cell? ⟨b, i + 3, none⟩ = some u3) (f0 : w.frozen? ⟨b, i, none⟩ = false) (f1 : w.frozen? ⟨b, i + 1, none⟩ = false) (f2 : w.frozen? ⟨b, i + 2, none⟩ = false) (f3 : w.frozen? ⟨b, i + 3, none⟩ = false) (h0 : v0.oneCell' = true) (h1 : v1.oneCell' = true) (h2 : v2.oneCell' = true) (h3 : v3.oneCell' = true) :
    (Builtin.copy_ #[dT, sT] ty #[.slice (some ⟨b, i, none⟩) dL dC, .slice (some ⟨b', i', none⟩) 4 sC]).run P w = .ok (goInt 4) ((((w.setCell ⟨b, i, none⟩ v0).setCell ⟨b, i + 1, none⟩ v1).setCell ⟨b, i + 1 + 1, none⟩ v2).setCell ⟨b, i + 1 + 1 + 1, none⟩ v3) :=
  run_copyN dT sT ty elem b i dL dC b' i' sC hu hsz [v0, v1, v2, v3] (by simpa using hn) (fun j v hv => by rcases j with _ | _ | _ | _ | j <;> simp_all) (fun j hj => by rcases j with _ | _ | _ | _ | j <;> simp_all; omega) (fun j hj => by rcases j with _ | _ | _ | _ | j <;> simp_all; omega) (by simp [h0, h1, h2, h3])
end
set_option maxHeartbeats 1000000 in
theorem hopApply_out (f k l a b c e p q r s d t1 t2 t3 t4 : Int) (w : World) (h : ¬ (hopB ⟨f, k, l, a, b, c, e, p, q, r, s⟩ = true ∧ rightB ⟨d, t1, t2, t3, t4⟩ = true ∧ d = f)) :
    Calls Try.prog 36 #[.agg #[.int .i64 f, .int .i64 k, .int .i64 l, .int .i64 a, .int .i64 b, .int .i64 c, .int .i64 e, .int .i64 p, .int .i64 q, .int .i64 r, .int .i64 s], .agg #[.int .i64 d, .int .i64 t1, .int .i64 t2, .int .i64 t3, .int .i64 t4]] w fun o w' => o = .returned (.tuple #[tv tz, .bool false]) ∧ Ext w w' := by
  have r1 := fun w => hopRight_any f k l a b c e p q r s w
  have r2 := fun w => right_any d t1 t2 t3 t4 w
  cases hx : hopB ⟨f, k, l, a, b, c, e, p, q, r, s⟩
  · rw [hx] at r1
    have R1 := Lib.hid r1
    clear r1 r2 hx h
    go_enter Try.func36, Try.ntmps36
    go_wp2_with (first | (go_at_call 40; ((with_reducible refine (R1.out _).mono ?_); rintro o w' ⟨rfl, u, rfl⟩)))
    go_returns
    exact ⟨rett rfl rfl, by (repeat' (first | with_reducible exact Ext.refl _ | with_reducible refine Ext.ext ?_ _ | with_reducible refine Ext.alloc ?_ _ | with_reducible refine Ext.drew ?_ | with_reducible refine Ext.drewN ?_ _ | with_reducible assumption))⟩
  · cases hy : rightB ⟨d, t1, t2, t3, t4⟩
    · rw [hx] at r1
      rw [hy] at r2
      have R1 := Lib.hid r1
      have R2 := Lib.hid r2
      clear r1 r2 hx hy h
      go_enter Try.func36, Try.ntmps36
      go_wp2_with (first | (go_at_call 40; ((with_reducible refine (R1.out _).mono ?_); rintro o w' ⟨rfl, u, rfl⟩)) | (go_at_call 33; ((with_reducible refine (R2.out _).mono ?_); rintro o w' ⟨rfl, u, rfl⟩)))
      go_returns
      exact ⟨rett rfl rfl, by (repeat' (first | with_reducible exact Ext.refl _ | with_reducible refine Ext.ext ?_ _ | with_reducible refine Ext.alloc ?_ _ | with_reducible refine Ext.drew ?_ | with_reducible refine Ext.drewN ?_ _ | with_reducible assumption))⟩
    · have hne : d ≠ f := fun he => h ⟨hx, hy, he⟩
      have hb : (d == f) = false := by simpa using hne
      have hb2 : (d != f) = true := by simpa using hne
      rw [hx] at r1
      rw [hy] at r2
      have R1 := Lib.hid r1
      have R2 := Lib.hid r2
      clear r1 r2 hx hy h
      go_enter Try.func36, Try.ntmps36
      go_wp2_with (first | (go_at_call 40; ((with_reducible refine (R1.out _).mono ?_); rintro o w' ⟨rfl, u, rfl⟩)) | (go_at_call 33; ((with_reducible refine (R2.out _).mono ?_); rintro o w' ⟨rfl, u, rfl⟩)))
      go_returns
      exact ⟨rett rfl rfl, by (repeat' (first | with_reducible exact Ext.refl _ | with_reducible refine Ext.ext ?_ _ | with_reducible refine Ext.alloc ?_ _ | with_reducible refine Ext.drew ?_ | with_reducible refine Ext.drewN ?_ _ | with_reducible assumption))⟩
theorem wi_bd {n a b c e : Int} (h : withinB a b c e n = true) (i : Int) (hi : i = 0 ∨ i = 1 ∨ i = 2 ∨ i = 3) : 0 ≤ cAt a b c e i ∧ cAt a b c e i ≤ 1048576 := by
  simp only [withinB, wiTo, wiAt, Bool.and_eq_true, decide_eq_true_eq] at h
  rcases hi with rfl | rfl | rfl | rfl
  · exact ⟨h.1.1.1.2.1, h.1.1.1.2.2.1⟩
  · exact ⟨h.1.1.2.1, h.1.1.2.2.1⟩
  · exact ⟨h.1.2.1, h.1.2.2.1⟩
  · exact ⟨h.2.1, h.2.2.1⟩
theorem okAt_bd {d x k : Int} (h : okAt d x k = true) : 0 ≤ x ∧ x ≤ 1048576 := by
  simp only [okAt, decide_eq_true_eq] at h
  obtain ⟨h1, h2, h3⟩ := h
  have hg : gr k ≤ 1048576 := by unfold gr; split <;> omega
  by_cases hk : k < d
  · have := h2 hk; omega
  · have := h3 (by omega); omega
theorem tm_bd {d a b c e : Int} (h : rightB ⟨d, a, b, c, e⟩ = true) (i : Int) (hi : i = 0 ∨ i = 1 ∨ i = 2 ∨ i = 3) : 0 ≤ cAt a b c e i ∧ cAt a b c e i ≤ 1048576 := by
  simp only [rightB, okTo, Bool.and_eq_true, decide_eq_true_eq] at h
  rcases hi with rfl | rfl | rfl | rfl
  · exact okAt_bd h.2.1.1.1.2
  · exact okAt_bd h.2.1.1.2
  · exact okAt_bd h.2.1.2
  · exact okAt_bd h.2.2
theorem apply_bd {f k l a b c e p q r s t1 t2 t3 t4 : Int} (hx : hopB ⟨f, k, l, a, b, c, e, p, q, r, s⟩ = true) (hy : rightB ⟨f, t1, t2, t3, t4⟩ = true) (i : Int) (hi : i = 0 ∨ i = 1 ∨ i = 2 ∨ i = 3) :
    (0 ≤ cAt t1 t2 t3 t4 i ∧ cAt t1 t2 t3 t4 i ≤ 1048576) ∧ 0 ≤ cAt a b c e i ∧ cAt a b c e i ≤ 1048576 :=
  ⟨tm_bd hy i hi, wi_bd ((hopB_iff _).1 hx).2.1 i hi⟩
theorem apply_wrap {f k l a b c e p q r s t1 t2 t3 t4 : Int} (hx : hopB ⟨f, k, l, a, b, c, e, p, q, r, s⟩ = true) (hy : rightB ⟨f, t1, t2, t3, t4⟩ = true) (i : Int) (hi : i = 0 ∨ i = 1 ∨ i = 2 ∨ i = 3) :
    wrap64 (cAt t1 t2 t3 t4 i + cAt a b c e i) = cAt t1 t2 t3 t4 i + cAt a b c e i := by
  obtain ⟨h1, h2⟩ := apply_bd hx hy i hi
  exact IntWalk.wrap64_in _ ⟨by omega, by omega⟩
end Go.Proofs.Ytkmgdejpdhlleaa

/- State by versions by deep values: what they are; comparisons, Clone, find, last, ordered. -/
import Derived.Test.YtkmgdejpdhlleaaTyv
import Derived.Test.YtkmgdejpdhlleaaVsI
import Derived.Test.YtkmgdejpdhlleaaVsP
namespace Go.Proofs.Ytkmgdejpdhlleaa.Dq
set_option linter.unusedSimpArgs false
set_option linter.unusedVariables false
set_option maxRecDepth 100000
open Go.RowKit
open Vs

def rcC : Cod Rc where
  K := 2
  enc := fun m => [.int .i64 m.k, .int .i64 m.v]
  dec := fun l => match l with
    | [.int _ k, .int _ v] => ⟨k, v⟩
    | _ => ⟨0, 0⟩
  de := fun _ => rfl
  len := fun _ => rfl
  lf := fun _ => rfl
theorem rcE (m : Rc) : rcC.enc m = [.int .i64 m.k, .int .i64 m.v] := rfl
theorem rcD (k v : Int) : rcC.dec [D.int IntKind.i64 k, D.int IntKind.i64 v] = ⟨k, v⟩ := rfl
def enC : Cod En where
  K := 4
  enc := fun m => [.int .i64 m.at_, .int .i64 m.k, .int .i64 m.v, .int .i64 m.n]
  dec := fun l => match l with
    | [.int _ a, .int _ k, .int _ v, .int _ n] => ⟨a, k, v, n⟩
    | _ => ⟨0, 0, 0, 0⟩
  de := fun _ => rfl
  len := fun _ => rfl
  lf := fun _ => rfl
theorem enE (m : En) : enC.enc m = [.int .i64 m.at_, .int .i64 m.k, .int .i64 m.v, .int .i64 m.n] := rfl
theorem enD (a k v n : Int) : enC.dec [D.int IntKind.i64 a, D.int IntKind.i64 k, D.int IntKind.i64 v, D.int IntKind.i64 n] = ⟨a, k, v, n⟩ := rfl
def vnC : Cod Vn where
  K := 2
  enc := fun m => [.int .i64 m.at_, .sl (encL rcC m.s)]
  dec := fun l => match l with
    | [.int _ a, .sl s] => ⟨a, decL rcC s⟩
    | _ => ⟨0, []⟩
  de := fun m => by dsimp only; rw [decL_encL]
  len := fun _ => rfl
  lf := fun _ => rfl
theorem vnE (m : Vn) : vnC.enc m = [.int .i64 m.at_, .sl (encL rcC m.s)] := rfl
theorem vnD (a : Int) (s : List Rc) : vnC.dec [D.int IntKind.i64 a, D.sl (encL rcC s)] = ⟨a, s⟩ := vnC.de ⟨a, s⟩
def vsC : Cod Vs where
  K := 6
  enc := fun v => [.sl (encL enC v.log), .sl (encL vnC v.kept), .int .i64 v.every, .int .i64 v.cut, .int .i64 v.rolled, .int .i64 v.again]
  dec := fun l => match l with
    | [.sl a, .sl b, .int _ e, .int _ c, .int _ r, .int _ g] => ⟨decL enC a, decL vnC b, e, c, r, g⟩
    | _ => ⟨[], [], 0, 0, 0, 0⟩
  de := fun v => by dsimp only; rw [decL_encL, decL_encL]
  len := fun _ => rfl
  lf := fun _ => rfl
theorem vsE (v : Vs) : vsC.enc v = [.sl (encL enC v.log), .sl (encL vnC v.kept), .int .i64 v.every, .int .i64 v.cut, .int .i64 v.rolled, .int .i64 v.again] := rfl
theorem rc_all (l : List Rc) : allK 2 (encL rcC l) := encL_all (C := rcC) l
theorem en_all (l : List En) : allK 4 (encL enC l) := encL_all (C := enC) l
theorem vn_all (l : List Vn) : allK 2 (encL vnC l) := encL_all (C := vnC) l
set_option maxHeartbeats 4000000 in
theorem eqin32 (d : Nat) (w : World) (x0 : Int) (x1 : Int) (y0 : Int) (y1 : Int) : (Op.equalIn (d + 2) 32 (.agg #[Value.int .i64 x0, Value.int .i64 x1]) (.agg #[Value.int .i64 y0, Value.int .i64 y1])).run Try.prog w = .ok ((x0 == y0) && (x1 == y1)) w := by
  rw [run_equalIn_struct (ht := by kernel_rfl) (hp := by kernel_rfl)]
  have qa2 : ∀ w, (isAgg 2).run Try.prog w = .ok false w := fun w => by rfl
  have qs2 : ∀ w, (sizeOf 2).run Try.prog w = .ok 1 w := fun w => by rfl
  have e0 := run_equalIn_int (P := Try.prog) w d 2 .i64 .i64 x0 y0 Try.underlying2
  have e1 := run_equalIn_int (P := Try.prog) w d 2 .i64 .i64 x1 y1 Try.underlying2
  cases h0 : (x0 == y0) <;> cases h1 : (x1 == y1)
  all_goals
    rw [h0] at e0
    rw [h1] at e1
    simp [Program.fieldsOf, Try.underlying32, Op.eqFields, part, qa2, qs2, e0, e1]
theorem eqok32 (x0 : Int) (x1 : Int) (y0 : Int) (y1 : Int) : EqOk Try.prog 32 [D.int .i64 x0, D.int .i64 x1] [D.int .i64 y0, D.int .i64 y1] := by
  intro A w us vs x y hu hv
  obtain rfl : us = #[Value.int .i64 x0, Value.int .i64 x1] := flatXU hu
  obtain rfl : vs = #[Value.int .i64 y0, Value.int .i64 y1] := flatXU hv
  have hg : Try.prog.eqGuardType Try.prog.depth 32 = false := by kernel_rfl
  refine ⟨run_eqGuard_agg w _ _ x y _ _ hg, run_eqGuard_agg w _ _ x y _ _ hg, ?_⟩
  have h := eqin32 9998 w x0 x1 y0 y1
  refine Eq.trans (b := _) h ?_
  congr 1
  simp only [eqF, Bool.and_assoc, Bool.and_true, beq_self_eq_true, Bool.true_and]
set_option maxHeartbeats 4000000 in
theorem eqin34 (d : Nat) (w : World) (x0 : Int) (x1 : Int) (x2 : Int) (x3 : Int) (y0 : Int) (y1 : Int) (y2 : Int) (y3 : Int) : (Op.equalIn (d + 3) 34 (.agg #[Value.int .i64 x0, Value.int .i64 x1, Value.int .i64 x2, Value.int .i64 x3]) (.agg #[Value.int .i64 y0, Value.int .i64 y1, Value.int .i64 y2, Value.int .i64 y3])).run Try.prog w = .ok (((x0 == y0) && ((x1 == y1) && (x2 == y2))) && (x3 == y3)) w := by
  rw [run_equalIn_struct (ht := by kernel_rfl) (hp := by kernel_rfl)]
  have qa3 : ∀ w, (isAgg 3).run Try.prog w = .ok false w := fun w => by rfl
  have qs3 : ∀ w, (sizeOf 3).run Try.prog w = .ok 1 w := fun w => by rfl
  have qa32 : ∀ w, (isAgg 32).run Try.prog w = .ok true w := fun w => by rfl
  have qs32 : ∀ w, (sizeOf 32).run Try.prog w = .ok 2 w := fun w => by rfl
  have e0 := run_equalIn_int (P := Try.prog) w (d + 1) 3 .i64 .i64 x0 y0 Try.underlying3
  have e1 := eqin32 d w x1 x2 y1 y2
  have e2 := run_equalIn_int (P := Try.prog) w (d + 1) 3 .i64 .i64 x3 y3 Try.underlying3
  cases h0 : (x0 == y0) <;> cases h1 : ((x1 == y1) && (x2 == y2)) <;> cases h2 : (x3 == y3)
  all_goals
    rw [h0] at e0
    rw [h1] at e1
    rw [h2] at e2
    simp [Program.fieldsOf, Try.underlying34, Op.eqFields, part, qa3, qa32, qs3, qs32, e0, e1, e2]
theorem eqok34 (x0 : Int) (x1 : Int) (x2 : Int) (x3 : Int) (y0 : Int) (y1 : Int) (y2 : Int) (y3 : Int) : EqOk Try.prog 34 [D.int .i64 x0, D.int .i64 x1, D.int .i64 x2, D.int .i64 x3] [D.int .i64 y0, D.int .i64 y1, D.int .i64 y2, D.int .i64 y3] := by
  intro A w us vs x y hu hv
  obtain rfl : us = #[Value.int .i64 x0, Value.int .i64 x1, Value.int .i64 x2, Value.int .i64 x3] := flatXU hu
  obtain rfl : vs = #[Value.int .i64 y0, Value.int .i64 y1, Value.int .i64 y2, Value.int .i64 y3] := flatXU hv
  have hg : Try.prog.eqGuardType Try.prog.depth 34 = false := by kernel_rfl
  refine ⟨run_eqGuard_agg w _ _ x y _ _ hg, run_eqGuard_agg w _ _ x y _ _ hg, ?_⟩
  have h := eqin34 9997 w x0 x1 x2 x3 y0 y1 y2 y3
  refine Eq.trans (b := _) h ?_
  congr 1
  simp only [eqF, Bool.and_assoc, Bool.and_true, beq_self_eq_true, Bool.true_and]

def nanD : List S1 → CR × Prop
  | [.c (.int .i64 _)] => (.one (.c (.bool false)), True)
  | _ => (.one (.c (.bool false)), False)
theorem nan_cal (args : List S1) (h : (nanD args).2) : Cal Try.prog 193 args (nanD args).1 := by
  unfold nanD at h ⊢
  split at h
  · next a =>
    have e : (a != a) = false := by simp
    refine DV.of (Γ := ⟨[], [], []⟩) (rs := [ResultVar.tmp 2]) [0, 2] ⟨nofun, nofun⟩ (by kernel_rfl) Try.func193 rfl rfl (by kernel_rfl) rfl ?_; (repeat (with_reducible first | apply qa | apply qb | apply qc | apply qd | apply qe))
    (apply DV.seqreg; kernel_rfl; (simp only [wpS, wpT, go1, evS, ev, evMove, evBin, nilB, gdS, put1, sv, gs, gb, opd, cst, outS, cellsS, okS, asSl, setAt, bad, dem, demD, demDs, demB, demC, demCs, demL, deNl, deNls, refS, refD, refDs, refB, refC, refCs, lf, lfs, asP, pOk, nilP, Nat.reduceBEq, slim1, argsS, keep, kp, cand, cor, List.map, List.append, Option.bind, ↓reduceIte, Nat.reduceEqDiff, Nat.reduceAdd, Nat.reduceMul, Nat.reduceLT, Nat.reduceLeDiff, reduceCtorEq, Int.reduceLT, Int.reduceLE, Int.reduceBEq, Int.reduceBNe, Int.reduceAdd, Int.reduceSub, Int.reduceToNat, dq, tya]; exact rfl); (repeat (with_reducible first | apply qa | apply qb | apply qc | apply qd | apply qe)))
    (apply DV.seqreg; kernel_rfl; (simp only [wpS, wpT, go1, evS, ev, evMove, evBin, nilB, gdS, put1, sv, gs, gb, opd, cst, outS, cellsS, okS, asSl, setAt, bad, dem, demD, demDs, demB, demC, demCs, demL, deNl, deNls, refS, refD, refDs, refB, refC, refCs, lf, lfs, asP, pOk, nilP, Nat.reduceBEq, slim1, argsS, keep, kp, cand, cor, List.map, List.append, Option.bind, ↓reduceIte, Nat.reduceEqDiff, Nat.reduceAdd, Nat.reduceMul, Nat.reduceLT, Nat.reduceLeDiff, reduceCtorEq, Int.reduceLT, Int.reduceLE, Int.reduceBEq, Int.reduceBNe, Int.reduceAdd, Int.reduceSub, Int.reduceToNat, dq, tya, e]; exact rfl); (repeat (with_reducible first | apply qa | apply qb | apply qc | apply qd | apply qe)))
    (refine DV.ret ?_; (repeat (first | (with_reducible refine thenD_ret' ?_) | (with_reducible refine blockD_ret' ?_))); (with_reducible refine retD_ret' ?_); (try simp only [resOk, resL, rvS, toR, noMu, wpS, wpT, go1, evS, ev, evMove, evBin, nilB, gdS, put1, sv, gs, gb, opd, cst, outS, cellsS, okS, asSl, setAt, bad, dem, demD, demDs, demB, demC, demCs, demL, deNl, deNls, refS, refD, refDs, refB, refC, refCs, lf, lfs, asP, pOk, nilP, Nat.reduceBEq, slim1, argsS, keep, kp, cand, cor, List.map, List.append, Option.bind, ↓reduceIte, Nat.reduceEqDiff, Nat.reduceAdd, Nat.reduceMul, Nat.reduceLT, Nat.reduceLeDiff, reduceCtorEq, Int.reduceLT, Int.reduceLE, Int.reduceBEq, Int.reduceBNe, Int.reduceAdd, Int.reduceSub, Int.reduceToNat, dq, tya]))
  · exact h.elim
def cmpI (a b : Int) : Int := if a < b then -1 else if b < a then 1 else 0
def cmD : List S1 → CR × Prop
  | [.c (.int .i64 a), .c (.int .i64 b)] => (.one (.c (.int .i64 (cmpI a b))), True)
  | _ => (.one (.c (.bool false)), False)
theorem cm_cal (args : List S1) (h : (cmD args).2) : Cal Try.prog 183 args (cmD args).1 := by
  unfold cmD at h ⊢
  split at h
  · next a b =>
    obtain ⟨R, hR⟩ : ∃ R, cmpI a b = R := ⟨_, rfl⟩
    rw [hR]
    unfold cmpI at hR
    refine DV.of (Γ := ⟨[(193, nanD)], [], []⟩) (rs := [ResultVar.tmp 4]) [0, 1, 4, 5, 6, 11, 12, 13, 16, 19] ⟨by intro p hp; simp only [List.mem_singleton] at hp; subst hp; exact nan_cal, nofun⟩ (by kernel_rfl) Try.func183 rfl rfl (by kernel_rfl) rfl ?_; (repeat (with_reducible first | apply qa | apply qb | apply qc | apply qd | apply qe))
    (apply DV.seqreg; kernel_rfl; (simp only [wpS, wpT, go1, evS, ev, evCallee, evMove, evBin, evLen, evCall, evCallF, nilB, gdS, put1, sv, gs, gb, opd, cst, outS, cellsS, okS, asSl, setAt, bad, dem, demD, demDs, demB, demC, demCs, demL, deNl, deNls, refS, refD, refDs, refB, refC, refCs, refL, isSh, isShC, anySh, lf, lfs, argsD, plainD, plains, plainR, plainRs, noMut, asP, pOk, nilP, ofCp, Nat.reduceBEq, cv, cvL, wrL, isOwn, argsOb, slim1, argsS, keep, kp, cand, cor, List.map, List.append, Option.bind, ↓reduceIte, Nat.reduceEqDiff, Nat.reduceAdd, Nat.reduceMul, Nat.reduceLT, Nat.reduceLeDiff, reduceCtorEq, Int.reduceLT, Int.reduceLE, Int.reduceBEq, Int.reduceBNe, Int.reduceAdd, Int.reduceSub, Int.reduceToNat, dq, tya, nanD]; exact rfl); (repeat (with_reducible first | apply qa | apply qb | apply qc | apply qd | apply qe)))
    (apply DV.seqreg; kernel_rfl; (simp only [wpS, wpT, go1, evS, ev, evCallee, evMove, evBin, evLen, evCall, evCallF, nilB, gdS, put1, sv, gs, gb, opd, cst, outS, cellsS, okS, asSl, setAt, bad, dem, demD, demDs, demB, demC, demCs, demL, deNl, deNls, refS, refD, refDs, refB, refC, refCs, refL, isSh, isShC, anySh, lf, lfs, argsD, plainD, plains, plainR, plainRs, noMut, asP, pOk, nilP, ofCp, Nat.reduceBEq, cv, cvL, wrL, isOwn, argsOb, slim1, argsS, keep, kp, cand, cor, List.map, List.append, Option.bind, ↓reduceIte, Nat.reduceEqDiff, Nat.reduceAdd, Nat.reduceMul, Nat.reduceLT, Nat.reduceLeDiff, reduceCtorEq, Int.reduceLT, Int.reduceLE, Int.reduceBEq, Int.reduceBNe, Int.reduceAdd, Int.reduceSub, Int.reduceToNat, dq, tya, nanD]; exact rfl); (repeat (with_reducible first | apply qa | apply qb | apply qc | apply qd | apply qe)))
    (apply DV.seqreg; kernel_rfl; (simp only [wpS, wpT, go1, evS, ev, evCallee, evMove, evBin, evLen, evCall, evCallF, nilB, gdS, put1, sv, gs, gb, opd, cst, outS, cellsS, okS, asSl, setAt, bad, dem, demD, demDs, demB, demC, demCs, demL, deNl, deNls, refS, refD, refDs, refB, refC, refCs, refL, isSh, isShC, anySh, lf, lfs, argsD, plainD, plains, plainR, plainRs, noMut, asP, pOk, nilP, ofCp, Nat.reduceBEq, cv, cvL, wrL, isOwn, argsOb, slim1, argsS, keep, kp, cand, cor, List.map, List.append, Option.bind, ↓reduceIte, Nat.reduceEqDiff, Nat.reduceAdd, Nat.reduceMul, Nat.reduceLT, Nat.reduceLeDiff, reduceCtorEq, Int.reduceLT, Int.reduceLE, Int.reduceBEq, Int.reduceBNe, Int.reduceAdd, Int.reduceSub, Int.reduceToNat, dq, tya, nanD]; exact rfl); (repeat (with_reducible first | apply qa | apply qb | apply qc | apply qd | apply qe)))
    (apply DV.seqreg; kernel_rfl; (simp only [wpS, wpT, go1, evS, ev, evCallee, evMove, evBin, evLen, evCall, evCallF, nilB, gdS, put1, sv, gs, gb, opd, cst, outS, cellsS, okS, asSl, setAt, bad, dem, demD, demDs, demB, demC, demCs, demL, deNl, deNls, refS, refD, refDs, refB, refC, refCs, refL, isSh, isShC, anySh, lf, lfs, argsD, plainD, plains, plainR, plainRs, noMut, asP, pOk, nilP, ofCp, Nat.reduceBEq, cv, cvL, wrL, isOwn, argsOb, slim1, argsS, keep, kp, cand, cor, List.map, List.append, Option.bind, ↓reduceIte, Nat.reduceEqDiff, Nat.reduceAdd, Nat.reduceMul, Nat.reduceLT, Nat.reduceLeDiff, reduceCtorEq, Int.reduceLT, Int.reduceLE, Int.reduceBEq, Int.reduceBNe, Int.reduceAdd, Int.reduceSub, Int.reduceToNat, dq, tya, nanD]; exact rfl); (repeat (with_reducible first | apply qa | apply qb | apply qc | apply qd | apply qe)))
    (refine DV.condF rfl (fun _ => rfl) ?_; (repeat (with_reducible first | apply qa | apply qb | apply qc | apply qd | apply qe)))
    (refine DV.skip ?_; (repeat (with_reducible refine blockD_norm' ?_)); (with_reducible refine thenD_norm' ?_); (repeat (with_reducible first | apply qa | apply qb | apply qc | apply qd | apply qe)))
    (apply DV.seqreg; kernel_rfl; (simp only [wpS, wpT, go1, evS, ev, evCallee, evMove, evBin, evLen, evCall, evCallF, nilB, gdS, put1, sv, gs, gb, opd, cst, outS, cellsS, okS, asSl, setAt, bad, dem, demD, demDs, demB, demC, demCs, demL, deNl, deNls, refS, refD, refDs, refB, refC, refCs, refL, isSh, isShC, anySh, lf, lfs, argsD, plainD, plains, plainR, plainRs, noMut, asP, pOk, nilP, ofCp, Nat.reduceBEq, cv, cvL, wrL, isOwn, argsOb, slim1, argsS, keep, kp, cand, cor, List.map, List.append, Option.bind, ↓reduceIte, Nat.reduceEqDiff, Nat.reduceAdd, Nat.reduceMul, Nat.reduceLT, Nat.reduceLeDiff, reduceCtorEq, Int.reduceLT, Int.reduceLE, Int.reduceBEq, Int.reduceBNe, Int.reduceAdd, Int.reduceSub, Int.reduceToNat, dq, tya, nanD]; exact rfl); (repeat (with_reducible first | apply qa | apply qb | apply qc | apply qd | apply qe)))
    (refine DV.condF rfl (fun _ => rfl) ?_; (repeat (with_reducible first | apply qa | apply qb | apply qc | apply qd | apply qe)))
    (refine DV.skip ?_; (repeat (with_reducible refine blockD_norm' ?_)); (with_reducible refine thenD_norm' ?_); (repeat (with_reducible first | apply qa | apply qb | apply qc | apply qd | apply qe)))
    by_cases h1 : a < b
    · have d1 := decide_eq_true h1
      rw [if_pos h1] at hR
      (apply DV.seqreg; kernel_rfl; (simp only [wpS, wpT, go1, evS, ev, evCallee, evMove, evBin, evLen, evCall, evCallF, nilB, gdS, put1, sv, gs, gb, opd, cst, outS, cellsS, okS, asSl, setAt, bad, dem, demD, demDs, demB, demC, demCs, demL, deNl, deNls, refS, refD, refDs, refB, refC, refCs, refL, isSh, isShC, anySh, lf, lfs, argsD, plainD, plains, plainR, plainRs, noMut, asP, pOk, nilP, ofCp, Nat.reduceBEq, cv, cvL, wrL, isOwn, argsOb, slim1, argsS, keep, kp, cand, cor, List.map, List.append, Option.bind, ↓reduceIte, Nat.reduceEqDiff, Nat.reduceAdd, Nat.reduceMul, Nat.reduceLT, Nat.reduceLeDiff, reduceCtorEq, Int.reduceLT, Int.reduceLE, Int.reduceBEq, Int.reduceBNe, Int.reduceAdd, Int.reduceSub, Int.reduceToNat, dq, tya, nanD, d1]; exact rfl); (repeat (with_reducible first | apply qa | apply qb | apply qc | apply qd | apply qe)))
      (refine DV.condT rfl (fun _ => rfl) ?_; (repeat (with_reducible first | apply qa | apply qb | apply qc | apply qd | apply qe)))
      (apply DV.seqreg; kernel_rfl; (simp only [wpS, wpT, go1, evS, ev, evCallee, evMove, evBin, evLen, evCall, evCallF, nilB, gdS, put1, sv, gs, gb, opd, cst, outS, cellsS, okS, asSl, setAt, bad, dem, demD, demDs, demB, demC, demCs, demL, deNl, deNls, refS, refD, refDs, refB, refC, refCs, refL, isSh, isShC, anySh, lf, lfs, argsD, plainD, plains, plainR, plainRs, noMut, asP, pOk, nilP, ofCp, Nat.reduceBEq, cv, cvL, wrL, isOwn, argsOb, slim1, argsS, keep, kp, cand, cor, List.map, List.append, Option.bind, ↓reduceIte, Nat.reduceEqDiff, Nat.reduceAdd, Nat.reduceMul, Nat.reduceLT, Nat.reduceLeDiff, reduceCtorEq, Int.reduceLT, Int.reduceLE, Int.reduceBEq, Int.reduceBNe, Int.reduceAdd, Int.reduceSub, Int.reduceToNat, dq, tya, nanD]; exact rfl); (repeat (with_reducible first | apply qa | apply qb | apply qc | apply qd | apply qe)))
      (refine DV.ret ?_; (repeat (first | (with_reducible refine thenD_ret' ?_) | (with_reducible refine blockD_ret' ?_))); (with_reducible refine retD_ret' ?_); (try simp only [resOk, resL, rvS, toR, noMu, wpS, wpT, go1, evS, ev, evCallee, evMove, evBin, evLen, evCall, evCallF, nilB, gdS, put1, sv, gs, gb, opd, cst, outS, cellsS, okS, asSl, setAt, bad, dem, demD, demDs, demB, demC, demCs, demL, deNl, deNls, refS, refD, refDs, refB, refC, refCs, refL, isSh, isShC, anySh, lf, lfs, argsD, plainD, plains, plainR, plainRs, noMut, asP, pOk, nilP, ofCp, Nat.reduceBEq, cv, cvL, wrL, isOwn, argsOb, slim1, argsS, keep, kp, cand, cor, List.map, List.append, Option.bind, ↓reduceIte, Nat.reduceEqDiff, Nat.reduceAdd, Nat.reduceMul, Nat.reduceLT, Nat.reduceLeDiff, reduceCtorEq, Int.reduceLT, Int.reduceLE, Int.reduceBEq, Int.reduceBNe, Int.reduceAdd, Int.reduceSub, Int.reduceToNat, dq, tya, nanD]))
      exact hR
    rw [if_neg h1] at hR
    have d1 := decide_eq_false h1
    (apply DV.seqreg; kernel_rfl; (simp only [wpS, wpT, go1, evS, ev, evCallee, evMove, evBin, evLen, evCall, evCallF, nilB, gdS, put1, sv, gs, gb, opd, cst, outS, cellsS, okS, asSl, setAt, bad, dem, demD, demDs, demB, demC, demCs, demL, deNl, deNls, refS, refD, refDs, refB, refC, refCs, refL, isSh, isShC, anySh, lf, lfs, argsD, plainD, plains, plainR, plainRs, noMut, asP, pOk, nilP, ofCp, Nat.reduceBEq, cv, cvL, wrL, isOwn, argsOb, slim1, argsS, keep, kp, cand, cor, List.map, List.append, Option.bind, ↓reduceIte, Nat.reduceEqDiff, Nat.reduceAdd, Nat.reduceMul, Nat.reduceLT, Nat.reduceLeDiff, reduceCtorEq, Int.reduceLT, Int.reduceLE, Int.reduceBEq, Int.reduceBNe, Int.reduceAdd, Int.reduceSub, Int.reduceToNat, dq, tya, nanD, d1]; exact rfl); (repeat (with_reducible first | apply qa | apply qb | apply qc | apply qd | apply qe)))
    (refine DV.condF rfl (fun _ => rfl) ?_; (repeat (with_reducible first | apply qa | apply qb | apply qc | apply qd | apply qe)))
    (refine DV.skip ?_; (repeat (with_reducible refine blockD_norm' ?_)); (with_reducible refine thenD_norm' ?_); (repeat (with_reducible first | apply qa | apply qb | apply qc | apply qd | apply qe)))
    by_cases h2 : b < a
    · have d2 := decide_eq_true h2
      rw [if_pos h2] at hR
      (apply DV.seqreg; kernel_rfl; (simp only [wpS, wpT, go1, evS, ev, evCallee, evMove, evBin, evLen, evCall, evCallF, nilB, gdS, put1, sv, gs, gb, opd, cst, outS, cellsS, okS, asSl, setAt, bad, dem, demD, demDs, demB, demC, demCs, demL, deNl, deNls, refS, refD, refDs, refB, refC, refCs, refL, isSh, isShC, anySh, lf, lfs, argsD, plainD, plains, plainR, plainRs, noMut, asP, pOk, nilP, ofCp, Nat.reduceBEq, cv, cvL, wrL, isOwn, argsOb, slim1, argsS, keep, kp, cand, cor, List.map, List.append, Option.bind, ↓reduceIte, Nat.reduceEqDiff, Nat.reduceAdd, Nat.reduceMul, Nat.reduceLT, Nat.reduceLeDiff, reduceCtorEq, Int.reduceLT, Int.reduceLE, Int.reduceBEq, Int.reduceBNe, Int.reduceAdd, Int.reduceSub, Int.reduceToNat, dq, tya, nanD, d2]; exact rfl); (repeat (with_reducible first | apply qa | apply qb | apply qc | apply qd | apply qe)))
      (refine DV.condT rfl (fun _ => rfl) ?_; (repeat (with_reducible first | apply qa | apply qb | apply qc | apply qd | apply qe)))
      (apply DV.seqreg; kernel_rfl; (simp only [wpS, wpT, go1, evS, ev, evCallee, evMove, evBin, evLen, evCall, evCallF, nilB, gdS, put1, sv, gs, gb, opd, cst, outS, cellsS, okS, asSl, setAt, bad, dem, demD, demDs, demB, demC, demCs, demL, deNl, deNls, refS, refD, refDs, refB, refC, refCs, refL, isSh, isShC, anySh, lf, lfs, argsD, plainD, plains, plainR, plainRs, noMut, asP, pOk, nilP, ofCp, Nat.reduceBEq, cv, cvL, wrL, isOwn, argsOb, slim1, argsS, keep, kp, cand, cor, List.map, List.append, Option.bind, ↓reduceIte, Nat.reduceEqDiff, Nat.reduceAdd, Nat.reduceMul, Nat.reduceLT, Nat.reduceLeDiff, reduceCtorEq, Int.reduceLT, Int.reduceLE, Int.reduceBEq, Int.reduceBNe, Int.reduceAdd, Int.reduceSub, Int.reduceToNat, dq, tya, nanD]; exact rfl); (repeat (with_reducible first | apply qa | apply qb | apply qc | apply qd | apply qe)))
      (refine DV.ret ?_; (repeat (first | (with_reducible refine thenD_ret' ?_) | (with_reducible refine blockD_ret' ?_))); (with_reducible refine retD_ret' ?_); (try simp only [resOk, resL, rvS, toR, noMu, wpS, wpT, go1, evS, ev, evCallee, evMove, evBin, evLen, evCall, evCallF, nilB, gdS, put1, sv, gs, gb, opd, cst, outS, cellsS, okS, asSl, setAt, bad, dem, demD, demDs, demB, demC, demCs, demL, deNl, deNls, refS, refD, refDs, refB, refC, refCs, refL, isSh, isShC, anySh, lf, lfs, argsD, plainD, plains, plainR, plainRs, noMut, asP, pOk, nilP, ofCp, Nat.reduceBEq, cv, cvL, wrL, isOwn, argsOb, slim1, argsS, keep, kp, cand, cor, List.map, List.append, Option.bind, ↓reduceIte, Nat.reduceEqDiff, Nat.reduceAdd, Nat.reduceMul, Nat.reduceLT, Nat.reduceLeDiff, reduceCtorEq, Int.reduceLT, Int.reduceLE, Int.reduceBEq, Int.reduceBNe, Int.reduceAdd, Int.reduceSub, Int.reduceToNat, dq, tya, nanD]))
      exact hR
    rw [if_neg h2] at hR
    have d2 := decide_eq_false h2
    (apply DV.seqreg; kernel_rfl; (simp only [wpS, wpT, go1, evS, ev, evCallee, evMove, evBin, evLen, evCall, evCallF, nilB, gdS, put1, sv, gs, gb, opd, cst, outS, cellsS, okS, asSl, setAt, bad, dem, demD, demDs, demB, demC, demCs, demL, deNl, deNls, refS, refD, refDs, refB, refC, refCs, refL, isSh, isShC, anySh, lf, lfs, argsD, plainD, plains, plainR, plainRs, noMut, asP, pOk, nilP, ofCp, Nat.reduceBEq, cv, cvL, wrL, isOwn, argsOb, slim1, argsS, keep, kp, cand, cor, List.map, List.append, Option.bind, ↓reduceIte, Nat.reduceEqDiff, Nat.reduceAdd, Nat.reduceMul, Nat.reduceLT, Nat.reduceLeDiff, reduceCtorEq, Int.reduceLT, Int.reduceLE, Int.reduceBEq, Int.reduceBNe, Int.reduceAdd, Int.reduceSub, Int.reduceToNat, dq, tya, nanD, d2]; exact rfl); (repeat (with_reducible first | apply qa | apply qb | apply qc | apply qd | apply qe)))
    (refine DV.condF rfl (fun _ => rfl) ?_; (repeat (with_reducible first | apply qa | apply qb | apply qc | apply qd | apply qe)))
    (refine DV.skip ?_; (repeat (with_reducible refine blockD_norm' ?_)); (with_reducible refine thenD_norm' ?_); (repeat (with_reducible first | apply qa | apply qb | apply qc | apply qd | apply qe)))
    (apply DV.seqreg; kernel_rfl; (simp only [wpS, wpT, go1, evS, ev, evCallee, evMove, evBin, evLen, evCall, evCallF, nilB, gdS, put1, sv, gs, gb, opd, cst, outS, cellsS, okS, asSl, setAt, bad, dem, demD, demDs, demB, demC, demCs, demL, deNl, deNls, refS, refD, refDs, refB, refC, refCs, refL, isSh, isShC, anySh, lf, lfs, argsD, plainD, plains, plainR, plainRs, noMut, asP, pOk, nilP, ofCp, Nat.reduceBEq, cv, cvL, wrL, isOwn, argsOb, slim1, argsS, keep, kp, cand, cor, List.map, List.append, Option.bind, ↓reduceIte, Nat.reduceEqDiff, Nat.reduceAdd, Nat.reduceMul, Nat.reduceLT, Nat.reduceLeDiff, reduceCtorEq, Int.reduceLT, Int.reduceLE, Int.reduceBEq, Int.reduceBNe, Int.reduceAdd, Int.reduceSub, Int.reduceToNat, dq, tya, nanD]; exact rfl); (repeat (with_reducible first | apply qa | apply qb | apply qc | apply qd | apply qe)))
    (refine DV.ret ?_; (repeat (first | (with_reducible refine thenD_ret' ?_) | (with_reducible refine blockD_ret' ?_))); (with_reducible refine retD_ret' ?_); (try simp only [resOk, resL, rvS, toR, noMu, wpS, wpT, go1, evS, ev, evCallee, evMove, evBin, evLen, evCall, evCallF, nilB, gdS, put1, sv, gs, gb, opd, cst, outS, cellsS, okS, asSl, setAt, bad, dem, demD, demDs, demB, demC, demCs, demL, deNl, deNls, refS, refD, refDs, refB, refC, refCs, refL, isSh, isShC, anySh, lf, lfs, argsD, plainD, plains, plainR, plainRs, noMut, asP, pOk, nilP, ofCp, Nat.reduceBEq, cv, cvL, wrL, isOwn, argsOb, slim1, argsS, keep, kp, cand, cor, List.map, List.append, Option.bind, ↓reduceIte, Nat.reduceEqDiff, Nat.reduceAdd, Nat.reduceMul, Nat.reduceLT, Nat.reduceLeDiff, reduceCtorEq, Int.reduceLT, Int.reduceLE, Int.reduceBEq, Int.reduceBNe, Int.reduceAdd, Int.reduceSub, Int.reduceToNat, dq, tya, nanD]))
    exact hR
  · exact h.elim
def fcD : List S1 → CR × Prop
  | [.agg r, .c (.int .i64 k)] => (.one (.c (.int .i64 (cmpI (rcC.dec r).k k))), rcC.enc (rcC.dec r) = r)
  | _ => (.one (.c (.bool false)), False)
theorem fc_cal (args : List S1) (h : (fcD args).2) : Cal Try.prog 182 args (fcD args).1 := by
  unfold fcD at h ⊢
  split at h
  · next r0 k =>
    obtain ⟨r, rfl⟩ : ∃ r, r0 = rcC.enc r := ⟨_, h.symm⟩
    rw [rcC.de]
    obtain ⟨a, b⟩ := r
    refine DV.of (Γ := ⟨[(183, cmD)], [], []⟩) (rs := [ResultVar.tmp 4]) [0, 1, 2, 4] ⟨by intro p hp; simp only [List.mem_singleton] at hp; subst hp; exact cm_cal, nofun⟩ (by kernel_rfl) Try.func182 rfl rfl (by kernel_rfl) rfl ?_; (repeat (with_reducible first | apply qa | apply qb | apply qc | apply qd | apply qe))
    (apply DV.seqreg; kernel_rfl; (simp only [wpS, wpT, go1, evS, ev, evCallee, evMove, evFieldAddr, evLoad, evBox, evLen, evCall, evCallF, nilB, gdS, put1, sv, gs, gb, opd, cst, outS, cellsS, okS, asSl, setAt, bad, dem, demD, demDs, demB, demC, demCs, demL, deNl, deNls, refS, refD, refDs, refB, refC, refCs, refL, isSh, isShC, anySh, lf, lfs, argsD, plainD, plains, plainR, plainRs, noMut, asP, pOk, nilP, ofCp, Nat.reduceBEq, cv, cvL, wrL, isOwn, argsOb, slim1, argsS, keep, kp, cand, cor, List.map, List.append, Option.bind, ↓reduceIte, Nat.reduceEqDiff, Nat.reduceAdd, Nat.reduceMul, Nat.reduceLT, Nat.reduceLeDiff, reduceCtorEq, Int.reduceLT, Int.reduceLE, Int.reduceBEq, Int.reduceBNe, Int.reduceAdd, Int.reduceSub, Int.reduceToNat, dq, tya, cmD, rcE]; exact rfl); (repeat (with_reducible first | apply qa | apply qb | apply qc | apply qd | apply qe)))
    (apply DV.seqreg; kernel_rfl; (simp only [wpS, wpT, go1, evS, ev, evCallee, evMove, evFieldAddr, evLoad, evBox, evLen, evCall, evCallF, nilB, gdS, put1, sv, gs, gb, opd, cst, outS, cellsS, okS, asSl, setAt, bad, dem, demD, demDs, demB, demC, demCs, demL, deNl, deNls, refS, refD, refDs, refB, refC, refCs, refL, isSh, isShC, anySh, lf, lfs, argsD, plainD, plains, plainR, plainRs, noMut, asP, pOk, nilP, ofCp, Nat.reduceBEq, cv, cvL, wrL, isOwn, argsOb, slim1, argsS, keep, kp, cand, cor, List.map, List.append, Option.bind, ↓reduceIte, Nat.reduceEqDiff, Nat.reduceAdd, Nat.reduceMul, Nat.reduceLT, Nat.reduceLeDiff, reduceCtorEq, Int.reduceLT, Int.reduceLE, Int.reduceBEq, Int.reduceBNe, Int.reduceAdd, Int.reduceSub, Int.reduceToNat, dq, tya, cmD]; exact rfl); (repeat (with_reducible first | apply qa | apply qb | apply qc | apply qd | apply qe)))
    (refine DV.ret ?_; (repeat (first | (with_reducible refine thenD_ret' ?_) | (with_reducible refine blockD_ret' ?_))); (with_reducible refine retD_ret' ?_); (try simp only [resOk, resL, rvS, toR, noMu, wpS, wpT, go1, evS, ev, evCallee, evMove, evFieldAddr, evLoad, evBox, evLen, evCall, evCallF, nilB, gdS, put1, sv, gs, gb, opd, cst, outS, cellsS, okS, asSl, setAt, bad, dem, demD, demDs, demB, demC, demCs, demL, deNl, deNls, refS, refD, refDs, refB, refC, refCs, refL, isSh, isShC, anySh, lf, lfs, argsD, plainD, plains, plainR, plainRs, noMut, asP, pOk, nilP, ofCp, Nat.reduceBEq, cv, cvL, wrL, isOwn, argsOb, slim1, argsS, keep, kp, cand, cor, List.map, List.append, Option.bind, ↓reduceIte, Nat.reduceEqDiff, Nat.reduceAdd, Nat.reduceMul, Nat.reduceLT, Nat.reduceLeDiff, reduceCtorEq, Int.reduceLT, Int.reduceLE, Int.reduceBEq, Int.reduceBNe, Int.reduceAdd, Int.reduceSub, Int.reduceToNat, dq, tya, cmD]))
  · exact h.elim
theorem cmp_lt {a b : Int} : cmpI a b < 0 ↔ a < b := by
  unfold cmpI
  split
  · simp_all
  · split <;> omega
theorem cmp_eq {a b : Int} : cmpI a b = 0 ↔ a = b := by
  unfold cmpI
  split
  · omega
  · split <;> omega
def bsD : List S1 → CR × Prop
  | [.c (.sl l), .c (.int .i64 k), .fn f []] => (.tup [.c (.int .i64 (pos k (decL rcC l))), .c (.bool (fnd k (decL rcC l)))], f = 182 ∧ isL rcC l ∧ Ord (decL rcC l) ∧ (decL rcC l).length ≤ 1073741823)
  | _ => (.one (.c (.bool false)), False)
set_option maxHeartbeats 4000000 in
theorem bs_cal (args : List S1) (h : (bsD args).2) : Cal Try.prog 181 args (bsD args).1 := by
  unfold bsD at h ⊢
  split at h
  · next l0 k f =>
    obtain ⟨rfl, hl, ho, hn⟩ := h
    obtain ⟨L, rfl⟩ : ∃ l, l0 = encL rcC l := ⟨_, hl.symm⟩
    rw [decL_encL] at hn ho ⊢
    clear hl
    obtain ⟨R1, hR1⟩ : ∃ R, ((pos k L : Nat) : Int) = R := ⟨_, rfl⟩
    obtain ⟨R2, hR2⟩ : ∃ R, fnd k L = R := ⟨_, rfl⟩
    rw [hR1, hR2]
    refine DV.of (Γ := ⟨[(182, fcD)], [], []⟩) (rs := [ResultVar.tmp 6, ResultVar.tmp 7]) [0, 1, 2, 6, 7, 8, 9, 10, 11, 17, 31] ⟨by intro p hp; simp only [List.mem_singleton] at hp; subst hp; exact fc_cal, nofun⟩ (by kernel_rfl) Try.func181 rfl rfl (by kernel_rfl) rfl ?_; (repeat (with_reducible first | apply qa | apply qb | apply qc | apply qd | apply qe))
    (apply DV.seqreg; kernel_rfl; (simp only [wpS, wpT, go1, evS, ev, evCallee, evMove, evPick, evBin, evConv, evIndexAddr, evLoad, evLen, evCall, evCallF, nilB, gdS, put1, sv, gs, gb, opd, cst, outS, cellsS, okS, asSl, setAt, bad, dem, demD, demDs, demB, demC, demCs, demL, deNl, deNls, refS, refD, refDs, refB, refC, refCs, refL, isSh, isShC, anySh, lf, lfs, argsD, plainD, plains, plainR, plainRs, noMut, asP, pOk, nilP, ofCp, Nat.reduceBEq, cv, cvL, wrL, isOwn, argsOb, slim1, argsS, keep, kp, cand, cor, List.map, List.append, Option.bind, ↓reduceIte, Nat.reduceEqDiff, Nat.reduceAdd, Nat.reduceMul, Nat.reduceLT, Nat.reduceLeDiff, reduceCtorEq, Int.reduceLT, Int.reduceLE, Int.reduceBEq, Int.reduceBNe, Int.reduceAdd, Int.reduceSub, Int.reduceToNat, dq, tya, fcD]; exact rfl); (repeat (with_reducible first | apply qa | apply qb | apply qc | apply qd | apply qe)))
    (apply DV.seqreg; kernel_rfl; (simp only [wpS, wpT, go1, evS, ev, evCallee, evMove, evPick, evBin, evConv, evIndexAddr, evLoad, evLen, evCall, evCallF, nilB, gdS, put1, sv, gs, gb, opd, cst, outS, cellsS, okS, asSl, setAt, bad, dem, demD, demDs, demB, demC, demCs, demL, deNl, deNls, refS, refD, refDs, refB, refC, refCs, refL, isSh, isShC, anySh, lf, lfs, argsD, plainD, plains, plainR, plainRs, noMut, asP, pOk, nilP, ofCp, Nat.reduceBEq, cv, cvL, wrL, isOwn, argsOb, slim1, argsS, keep, kp, cand, cor, List.map, List.append, Option.bind, ↓reduceIte, Nat.reduceEqDiff, Nat.reduceAdd, Nat.reduceMul, Nat.reduceLT, Nat.reduceLeDiff, reduceCtorEq, Int.reduceLT, Int.reduceLE, Int.reduceBEq, Int.reduceBNe, Int.reduceAdd, Int.reduceSub, Int.reduceToNat, dq, tya, fcD, encL_len]; exact rfl); (repeat (with_reducible first | apply qa | apply qb | apply qc | apply qd | apply qe)))
    (apply DV.seqreg; kernel_rfl; (simp only [wpS, wpT, go1, evS, ev, evCallee, evMove, evPick, evBin, evConv, evIndexAddr, evLoad, evLen, evCall, evCallF, nilB, gdS, put1, sv, gs, gb, opd, cst, outS, cellsS, okS, asSl, setAt, bad, dem, demD, demDs, demB, demC, demCs, demL, deNl, deNls, refS, refD, refDs, refB, refC, refCs, refL, isSh, isShC, anySh, lf, lfs, argsD, plainD, plains, plainR, plainRs, noMut, asP, pOk, nilP, ofCp, Nat.reduceBEq, cv, cvL, wrL, isOwn, argsOb, slim1, argsS, keep, kp, cand, cor, List.map, List.append, Option.bind, ↓reduceIte, Nat.reduceEqDiff, Nat.reduceAdd, Nat.reduceMul, Nat.reduceLT, Nat.reduceLeDiff, reduceCtorEq, Int.reduceLT, Int.reduceLE, Int.reduceBEq, Int.reduceBNe, Int.reduceAdd, Int.reduceSub, Int.reduceToNat, dq, tya, fcD]; exact rfl); (repeat (with_reducible first | apply qa | apply qb | apply qc | apply qd | apply qe)))
    refine DV.loop (fun x : Nat × Nat => ⟨[(0, .v true (.c (.sl (encL rcC L)))), (1, .v true (.c (.int .i64 k))), (2, .v true (.fn 182 [])), (8, .v true (.c (.int .i64 L.length))), (9, .v true (.c (.int .i64 x.1))), (10, .v true (.c (.int .i64 x.2)))], [], []⟩) (fun x => x.1 ≤ x.2 ∧ x.2 ≤ L.length ∧ (∀ (i : Nat) r, i < x.1 → L[i]? = some r → r.k < k) ∧ (∀ (i : Nat) r, x.2 ≤ i → L[i]? = some r → k ≤ r.k)) (fun x => x.2 - x.1) (0, L.length) ⟨Nat.zero_le _, Nat.le_refl _, fun i r hi => absurd hi (Nat.not_lt_zero i), fun i r hi hr => by have := (List.getElem?_eq_some_iff.1 hr).1; dsimp only at hi; omega⟩ (by (refine wk_of [] ?_ ?_ ?_ ?_ ?_ <;> (simp only [false_and, and_false, and_self, wkS, wkB, wkR, wkP, convV, convS, convD, convDs, convB, convO, convC, convCs, look, carried, injB, convDs_enc, lkL_encL, lkL_nil, lkL_app, lkL_cons, encL_nil, encL_app, encL_cons, List.length_append, gdS, put1, sv, gs, gb, cellsS, setAt, bad, dem, demD, demDs, demB, demC, demCs, demL, deNl, deNls, refD, refDs, lf, lfs, pOk, Nat.reduceBEq, slim1, argsS, keep, kp, cand, cor, List.map, List.append, Option.bind, ↓reduceIte, Nat.reduceEqDiff, Nat.reduceAdd, Nat.reduceMul, Nat.reduceLT, Nat.reduceLeDiff, reduceCtorEq, Int.reduceLT, Int.reduceLE, Int.reduceBEq, Int.reduceBNe, Int.reduceAdd, Int.reduceSub, Int.reduceToNat, dq]; try trivial))) (fun x hx => ?_)
    obtain ⟨lo, hi⟩ := x
    obtain ⟨hlh, hhn, h1, h2⟩ := hx
    dsimp only at hlh hhn h1 h2
    (repeat (with_reducible first | apply qa | apply qb | apply qc | apply qd | apply qe))
    by_cases hlt : lo < hi
    · obtain ⟨m, hm⟩ : ∃ m, m = (lo + hi) / 2 := ⟨_, rfl⟩
      obtain ⟨⟨xk, xv⟩, hx⟩ : ∃ x, L[m]? = some x := ⟨L[m]'(by omega), List.getElem?_eq_getElem _⟩
      have d1 : decide ((lo : Int) < (hi : Int)) = true := decide_eq_true (by omega)
      have c1 : (0 : Int) ≤ m := by omega
      have c2 : (m : Int) < (L.length : Int) := by omega
      have c3 := encL_get (C := rcC) hx
      have e1 : IntKind.wrap .i64 ((lo : Int) + hi) = ((lo + hi : Nat) : Int) := by rw [IntKind.wrap_i64]; omega
      have e2 : IntKind.wrap .u64 (((lo + hi : Nat) : Int)) = ((lo + hi : Nat) : Int) := by rw [IntKind.wrap_u64]; omega
      have e3 : ((lo + hi : Nat) : Int) / 2 ^ 1 = (m : Int) := by omega
      have e4 : IntKind.wrap .i64 (m : Int) = (m : Int) := by rw [IntKind.wrap_i64]; omega
      have le1 : (0 : Int) ≤ 1 := by decide
      have le2 : (1 : Int) ≤ 8 := by decide
      (apply DV.seqreg; kernel_rfl; (simp only [wpS, wpT, go1, evS, ev, evCallee, evMove, evPick, evBin, evConv, evIndexAddr, evLoad, evLen, evCall, evCallF, nilB, gdS, put1, sv, gs, gb, opd, cst, outS, cellsS, okS, asSl, setAt, bad, dem, demD, demDs, demB, demC, demCs, demL, deNl, deNls, refS, refD, refDs, refB, refC, refCs, refL, isSh, isShC, anySh, lf, lfs, argsD, plainD, plains, plainR, plainRs, noMut, asP, pOk, nilP, ofCp, Nat.reduceBEq, cv, cvL, wrL, isOwn, argsOb, slim1, argsS, keep, kp, cand, cor, List.map, List.append, Option.bind, ↓reduceIte, Nat.reduceEqDiff, Nat.reduceAdd, Nat.reduceMul, Nat.reduceLT, Nat.reduceLeDiff, reduceCtorEq, Int.reduceLT, Int.reduceLE, Int.reduceBEq, Int.reduceBNe, Int.reduceAdd, Int.reduceSub, Int.reduceToNat, dq, tya, fcD, d1]; exact rfl); (repeat (with_reducible first | apply qa | apply qb | apply qc | apply qd | apply qe)))
      (refine DV.condT rfl (fun _ => rfl) ?_; (repeat (with_reducible first | apply qa | apply qb | apply qc | apply qd | apply qe)))
      (refine DV.skip ?_; (repeat (with_reducible refine blockD_norm' ?_)); (with_reducible refine thenD_norm' ?_); (repeat (with_reducible first | apply qa | apply qb | apply qc | apply qd | apply qe)))
      (apply DV.seqreg; kernel_rfl; (simp only [wpS, wpT, go1, evS, ev, evCallee, evMove, evPick, evBin, evConv, evIndexAddr, evLoad, evLen, evCall, evCallF, nilB, gdS, put1, sv, gs, gb, opd, cst, outS, cellsS, okS, asSl, setAt, bad, dem, demD, demDs, demB, demC, demCs, demL, deNl, deNls, refS, refD, refDs, refB, refC, refCs, refL, isSh, isShC, anySh, lf, lfs, argsD, plainD, plains, plainR, plainRs, noMut, asP, pOk, nilP, ofCp, Nat.reduceBEq, cv, cvL, wrL, isOwn, argsOb, slim1, argsS, keep, kp, cand, cor, List.map, List.append, Option.bind, ↓reduceIte, Nat.reduceEqDiff, Nat.reduceAdd, Nat.reduceMul, Nat.reduceLT, Nat.reduceLeDiff, reduceCtorEq, Int.reduceLT, Int.reduceLE, Int.reduceBEq, Int.reduceBNe, Int.reduceAdd, Int.reduceSub, Int.reduceToNat, dq, tya, fcD, e1, e2, e3, e4, le1, le2]; exact rfl); (repeat (with_reducible first | apply qa | apply qb | apply qc | apply qd | apply qe)))
      have hde : rcC.dec [D.int IntKind.i64 xk, D.int IntKind.i64 xv] = ⟨xk, xv⟩ := rfl
      by_cases hlt2 : xk < k
      · have d2 : decide (cmpI xk k < 0) = true := decide_eq_true (cmp_lt.2 hlt2)
        have ew := wr1 m (by omega)
        (apply DV.seqreg; kernel_rfl; (simp only [wpS, wpT, go1, evS, ev, evCallee, evMove, evPick, evBin, evConv, evIndexAddr, evLoad, evLen, evCall, evCallF, nilB, gdS, put1, sv, gs, gb, opd, cst, outS, cellsS, okS, asSl, setAt, bad, dem, demD, demDs, demB, demC, demCs, demL, deNl, deNls, refS, refD, refDs, refB, refC, refCs, refL, isSh, isShC, anySh, lf, lfs, argsD, plainD, plains, plainR, plainRs, noMut, asP, pOk, nilP, ofCp, Nat.reduceBEq, cv, cvL, wrL, isOwn, argsOb, slim1, argsS, keep, kp, cand, cor, List.map, List.append, Option.bind, ↓reduceIte, Nat.reduceEqDiff, Nat.reduceAdd, Nat.reduceMul, Nat.reduceLT, Nat.reduceLeDiff, reduceCtorEq, Int.reduceLT, Int.reduceLE, Int.reduceBEq, Int.reduceBNe, Int.reduceAdd, Int.reduceSub, Int.reduceToNat, dq, tya, fcD, i2n, encL_len, c1, c2, c3, rcE, hde, d2, isfn182]; exact rfl); (repeat (with_reducible first | apply qa | apply qb | apply qc | apply qd | apply qe)))
        (refine DV.condT rfl (fun _ => rfl) ?_; (repeat (with_reducible first | apply qa | apply qb | apply qc | apply qd | apply qe)))
        (apply DV.reg; kernel_rfl; (simp only [wpS, wpT, go1, evS, ev, evCallee, evMove, evPick, evBin, evConv, evIndexAddr, evLoad, evLen, evCall, evCallF, nilB, gdS, put1, sv, gs, gb, opd, cst, outS, cellsS, okS, asSl, setAt, bad, dem, demD, demDs, demB, demC, demCs, demL, deNl, deNls, refS, refD, refDs, refB, refC, refCs, refL, isSh, isShC, anySh, lf, lfs, argsD, plainD, plains, plainR, plainRs, noMut, asP, pOk, nilP, ofCp, Nat.reduceBEq, cv, cvL, wrL, isOwn, argsOb, slim1, argsS, keep, kp, cand, cor, List.map, List.append, Option.bind, ↓reduceIte, Nat.reduceEqDiff, Nat.reduceAdd, Nat.reduceMul, Nat.reduceLT, Nat.reduceLeDiff, reduceCtorEq, Int.reduceLT, Int.reduceLE, Int.reduceBEq, Int.reduceBNe, Int.reduceAdd, Int.reduceSub, Int.reduceToNat, dq, tya, fcD, ew]; exact rfl); (repeat (with_reducible refine blockD_norm' ?_)); (try with_reducible refine thenD_norm' ?_); (repeat (with_reducible first | apply qa | apply qb | apply qc | apply qd | apply qe)))
        refine ⟨(m + 1, hi), ⟨⟨by dsimp only; omega, hhn, fun i r hi' hr => ?_, h2⟩, by dsimp only; omega⟩, by (refine wk_of [] ?_ ?_ ?_ ?_ ?_ <;> (simp only [false_and, and_false, and_self, wkS, wkB, wkR, wkP, convV, convS, convD, convDs, convB, convO, convC, convCs, look, carried, injB, convDs_enc, lkL_encL, lkL_nil, lkL_app, lkL_cons, encL_nil, encL_app, encL_cons, List.length_append, gdS, put1, sv, gs, gb, cellsS, setAt, bad, dem, demD, demDs, demB, demC, demCs, demL, deNl, deNls, refD, refDs, lf, lfs, pOk, Nat.reduceBEq, slim1, argsS, keep, kp, cand, cor, List.map, List.append, Option.bind, ↓reduceIte, Nat.reduceEqDiff, Nat.reduceAdd, Nat.reduceMul, Nat.reduceLT, Nat.reduceLeDiff, reduceCtorEq, Int.reduceLT, Int.reduceLE, Int.reduceBEq, Int.reduceBNe, Int.reduceAdd, Int.reduceSub, Int.reduceToNat, dq]; try trivial))⟩
        rcases Nat.lt_or_ge i m with h | h
        · have := List.pairwise_iff_getElem.1 ho i m (by have := (List.getElem?_eq_some_iff.1 hr).1; omega) (by omega) h
          rw [List.getElem?_eq_some_iff] at hr hx
          obtain ⟨_, hr⟩ := hr
          obtain ⟨_, hx⟩ := hx
          rw [hr, hx] at this
          dsimp only at this
          omega
        · obtain rfl : i = m := by dsimp only at hi'; omega
          rw [hx] at hr
          obtain rfl := Option.some.inj hr
          exact hlt2
      · have d2 : decide (cmpI xk k < 0) = false := decide_eq_false (fun h => hlt2 (cmp_lt.1 h))
        (apply DV.seqreg; kernel_rfl; (simp only [wpS, wpT, go1, evS, ev, evCallee, evMove, evPick, evBin, evConv, evIndexAddr, evLoad, evLen, evCall, evCallF, nilB, gdS, put1, sv, gs, gb, opd, cst, outS, cellsS, okS, asSl, setAt, bad, dem, demD, demDs, demB, demC, demCs, demL, deNl, deNls, refS, refD, refDs, refB, refC, refCs, refL, isSh, isShC, anySh, lf, lfs, argsD, plainD, plains, plainR, plainRs, noMut, asP, pOk, nilP, ofCp, Nat.reduceBEq, cv, cvL, wrL, isOwn, argsOb, slim1, argsS, keep, kp, cand, cor, List.map, List.append, Option.bind, ↓reduceIte, Nat.reduceEqDiff, Nat.reduceAdd, Nat.reduceMul, Nat.reduceLT, Nat.reduceLeDiff, reduceCtorEq, Int.reduceLT, Int.reduceLE, Int.reduceBEq, Int.reduceBNe, Int.reduceAdd, Int.reduceSub, Int.reduceToNat, dq, tya, fcD, i2n, encL_len, c1, c2, c3, rcE, hde, d2, isfn182]; exact rfl); (repeat (with_reducible first | apply qa | apply qb | apply qc | apply qd | apply qe)))
        (refine DV.condF rfl (fun _ => rfl) ?_; (repeat (with_reducible first | apply qa | apply qb | apply qc | apply qd | apply qe)))
        (apply DV.reg; kernel_rfl; (simp only [wpS, wpT, go1, evS, ev, evCallee, evMove, evPick, evBin, evConv, evIndexAddr, evLoad, evLen, evCall, evCallF, nilB, gdS, put1, sv, gs, gb, opd, cst, outS, cellsS, okS, asSl, setAt, bad, dem, demD, demDs, demB, demC, demCs, demL, deNl, deNls, refS, refD, refDs, refB, refC, refCs, refL, isSh, isShC, anySh, lf, lfs, argsD, plainD, plains, plainR, plainRs, noMut, asP, pOk, nilP, ofCp, Nat.reduceBEq, cv, cvL, wrL, isOwn, argsOb, slim1, argsS, keep, kp, cand, cor, List.map, List.append, Option.bind, ↓reduceIte, Nat.reduceEqDiff, Nat.reduceAdd, Nat.reduceMul, Nat.reduceLT, Nat.reduceLeDiff, reduceCtorEq, Int.reduceLT, Int.reduceLE, Int.reduceBEq, Int.reduceBNe, Int.reduceAdd, Int.reduceSub, Int.reduceToNat, dq, tya, fcD]; exact rfl); (repeat (with_reducible refine blockD_norm' ?_)); (try with_reducible refine thenD_norm' ?_); (repeat (with_reducible first | apply qa | apply qb | apply qc | apply qd | apply qe)))
        refine ⟨(lo, m), ⟨⟨by dsimp only; omega, by dsimp only; omega, h1, fun i r hi' hr => ?_⟩, by dsimp only; omega⟩, by (refine wk_of [] ?_ ?_ ?_ ?_ ?_ <;> (simp only [false_and, and_false, and_self, wkS, wkB, wkR, wkP, convV, convS, convD, convDs, convB, convO, convC, convCs, look, carried, injB, convDs_enc, lkL_encL, lkL_nil, lkL_app, lkL_cons, encL_nil, encL_app, encL_cons, List.length_append, gdS, put1, sv, gs, gb, cellsS, setAt, bad, dem, demD, demDs, demB, demC, demCs, demL, deNl, deNls, refD, refDs, lf, lfs, pOk, Nat.reduceBEq, slim1, argsS, keep, kp, cand, cor, List.map, List.append, Option.bind, ↓reduceIte, Nat.reduceEqDiff, Nat.reduceAdd, Nat.reduceMul, Nat.reduceLT, Nat.reduceLeDiff, reduceCtorEq, Int.reduceLT, Int.reduceLE, Int.reduceBEq, Int.reduceBNe, Int.reduceAdd, Int.reduceSub, Int.reduceToNat, dq]; try trivial))⟩
        rcases Nat.lt_or_ge m i with h | h
        · have := List.pairwise_iff_getElem.1 ho m i (by omega) (by have := (List.getElem?_eq_some_iff.1 hr).1; omega) h
          rw [List.getElem?_eq_some_iff] at hr hx
          obtain ⟨_, hr⟩ := hr
          obtain ⟨_, hx⟩ := hx
          rw [hr, hx] at this
          dsimp only at this
          omega
        · obtain rfl : i = m := by dsimp only at hi'; omega
          rw [hx] at hr
          obtain rfl := Option.some.inj hr
          dsimp only
          omega
    · obtain rfl : lo = hi := by omega
      have hp := pos_eq ho hhn h1 h2
      have d1 : decide ((lo : Int) < (lo : Int)) = false := decide_eq_false (by omega)
      rw [← hp] at hR1
      subst hR1
      unfold fnd at hR2
      rw [← hp] at hR2
      (apply DV.seqreg; kernel_rfl; (simp only [wpS, wpT, go1, evS, ev, evCallee, evMove, evPick, evBin, evConv, evIndexAddr, evLoad, evLen, evCall, evCallF, nilB, gdS, put1, sv, gs, gb, opd, cst, outS, cellsS, okS, asSl, setAt, bad, dem, demD, demDs, demB, demC, demCs, demL, deNl, deNls, refS, refD, refDs, refB, refC, refCs, refL, isSh, isShC, anySh, lf, lfs, argsD, plainD, plains, plainR, plainRs, noMut, asP, pOk, nilP, ofCp, Nat.reduceBEq, cv, cvL, wrL, isOwn, argsOb, slim1, argsS, keep, kp, cand, cor, List.map, List.append, Option.bind, ↓reduceIte, Nat.reduceEqDiff, Nat.reduceAdd, Nat.reduceMul, Nat.reduceLT, Nat.reduceLeDiff, reduceCtorEq, Int.reduceLT, Int.reduceLE, Int.reduceBEq, Int.reduceBNe, Int.reduceAdd, Int.reduceSub, Int.reduceToNat, dq, tya, fcD, d1]; exact rfl); (repeat (with_reducible first | apply qa | apply qb | apply qc | apply qd | apply qe)))
      (refine DV.condF rfl (fun _ => rfl) ?_; (repeat (with_reducible first | apply qa | apply qb | apply qc | apply qd | apply qe)))
      (refine DV.exit ?_; (repeat (first | (with_reducible refine thenD_exit' ?_) | (with_reducible refine blockD_other (by decide) ?_))); (with_reducible refine blockD_same ?_); (repeat (with_reducible refine blockD_norm' ?_)); (with_reducible refine thenD_norm' ?_); (repeat (with_reducible first | apply qa | apply qb | apply qc | apply qd | apply qe)))
      by_cases hin : lo < L.length
      · obtain ⟨⟨xk, xv⟩, hx⟩ : ∃ x, L[lo]? = some x := ⟨L[lo]'(by omega), List.getElem?_eq_getElem _⟩
        rw [hx] at hR2
        have d2 : decide ((lo : Int) < (L.length : Int)) = true := decide_eq_true (by omega)
        have c1 : (0 : Int) ≤ lo := by omega
        have c2 : (lo : Int) < (L.length : Int) := by omega
        have c3 := encL_get (C := rcC) hx
        have hde : rcC.dec [D.int IntKind.i64 xk, D.int IntKind.i64 xv] = ⟨xk, xv⟩ := rfl
        have d3 : (cmpI xk k == 0) = R2 := by
          rw [← hR2, Bool.eq_iff_iff, beq_iff_eq, decide_eq_true_eq]
          exact cmp_eq
        (apply DV.seqreg; kernel_rfl; (simp only [wpS, wpT, go1, evS, ev, evCallee, evMove, evPick, evBin, evConv, evIndexAddr, evLoad, evLen, evCall, evCallF, nilB, gdS, put1, sv, gs, gb, opd, cst, outS, cellsS, okS, asSl, setAt, bad, dem, demD, demDs, demB, demC, demCs, demL, deNl, deNls, refS, refD, refDs, refB, refC, refCs, refL, isSh, isShC, anySh, lf, lfs, argsD, plainD, plains, plainR, plainRs, noMut, asP, pOk, nilP, ofCp, Nat.reduceBEq, cv, cvL, wrL, isOwn, argsOb, slim1, argsS, keep, kp, cand, cor, List.map, List.append, Option.bind, ↓reduceIte, Nat.reduceEqDiff, Nat.reduceAdd, Nat.reduceMul, Nat.reduceLT, Nat.reduceLeDiff, reduceCtorEq, Int.reduceLT, Int.reduceLE, Int.reduceBEq, Int.reduceBNe, Int.reduceAdd, Int.reduceSub, Int.reduceToNat, dq, tya, fcD, d2, i2n, encL_len, c1, c2, c3, rcE, hde, d3, isfn182]; exact rfl); (repeat (with_reducible first | apply qa | apply qb | apply qc | apply qd | apply qe)))
        (refine DV.ret ?_; (repeat (first | (with_reducible refine thenD_ret' ?_) | (with_reducible refine blockD_ret' ?_))); (with_reducible refine retD_ret' ?_); (try simp only [resOk, resL, rvS, toR, noMu, wpS, wpT, go1, evS, ev, evCallee, evMove, evPick, evBin, evConv, evIndexAddr, evLoad, evLen, evCall, evCallF, nilB, gdS, put1, sv, gs, gb, opd, cst, outS, cellsS, okS, asSl, setAt, bad, dem, demD, demDs, demB, demC, demCs, demL, deNl, deNls, refS, refD, refDs, refB, refC, refCs, refL, isSh, isShC, anySh, lf, lfs, argsD, plainD, plains, plainR, plainRs, noMut, asP, pOk, nilP, ofCp, Nat.reduceBEq, cv, cvL, wrL, isOwn, argsOb, slim1, argsS, keep, kp, cand, cor, List.map, List.append, Option.bind, ↓reduceIte, Nat.reduceEqDiff, Nat.reduceAdd, Nat.reduceMul, Nat.reduceLT, Nat.reduceLeDiff, reduceCtorEq, Int.reduceLT, Int.reduceLE, Int.reduceBEq, Int.reduceBNe, Int.reduceAdd, Int.reduceSub, Int.reduceToNat, dq, tya, fcD]))
        try decide
      · have d2 : decide ((lo : Int) < (L.length : Int)) = false := decide_eq_false (by omega)
        rw [List.getElem?_eq_none (by omega)] at hR2
        subst hR2
        (apply DV.seqreg; kernel_rfl; (simp only [wpS, wpT, go1, evS, ev, evCallee, evMove, evPick, evBin, evConv, evIndexAddr, evLoad, evLen, evCall, evCallF, nilB, gdS, put1, sv, gs, gb, opd, cst, outS, cellsS, okS, asSl, setAt, bad, dem, demD, demDs, demB, demC, demCs, demL, deNl, deNls, refS, refD, refDs, refB, refC, refCs, refL, isSh, isShC, anySh, lf, lfs, argsD, plainD, plains, plainR, plainRs, noMut, asP, pOk, nilP, ofCp, Nat.reduceBEq, cv, cvL, wrL, isOwn, argsOb, slim1, argsS, keep, kp, cand, cor, List.map, List.append, Option.bind, ↓reduceIte, Nat.reduceEqDiff, Nat.reduceAdd, Nat.reduceMul, Nat.reduceLT, Nat.reduceLeDiff, reduceCtorEq, Int.reduceLT, Int.reduceLE, Int.reduceBEq, Int.reduceBNe, Int.reduceAdd, Int.reduceSub, Int.reduceToNat, dq, tya, fcD, d2]; exact rfl); (repeat (with_reducible first | apply qa | apply qb | apply qc | apply qd | apply qe)))
        (refine DV.ret ?_; (repeat (first | (with_reducible refine thenD_ret' ?_) | (with_reducible refine blockD_ret' ?_))); (with_reducible refine retD_ret' ?_); (try simp only [resOk, resL, rvS, toR, noMu, wpS, wpT, go1, evS, ev, evCallee, evMove, evPick, evBin, evConv, evIndexAddr, evLoad, evLen, evCall, evCallF, nilB, gdS, put1, sv, gs, gb, opd, cst, outS, cellsS, okS, asSl, setAt, bad, dem, demD, demDs, demB, demC, demCs, demL, deNl, deNls, refS, refD, refDs, refB, refC, refCs, refL, isSh, isShC, anySh, lf, lfs, argsD, plainD, plains, plainR, plainRs, noMut, asP, pOk, nilP, ofCp, Nat.reduceBEq, cv, cvL, wrL, isOwn, argsOb, slim1, argsS, keep, kp, cand, cor, List.map, List.append, Option.bind, ↓reduceIte, Nat.reduceEqDiff, Nat.reduceAdd, Nat.reduceMul, Nat.reduceLT, Nat.reduceLeDiff, reduceCtorEq, Int.reduceLT, Int.reduceLE, Int.reduceBEq, Int.reduceBNe, Int.reduceAdd, Int.reduceSub, Int.reduceToNat, dq, tya, fcD]))
        try decide
  · exact h.elim
def fiD : List S1 → CR × Prop
  | [.c (.sl l), .c (.int .i64 k)] => (.tup [.c (.int .i64 (pos k (decL rcC l))), .c (.bool (fnd k (decL rcC l)))], isL rcC l ∧ Ord (decL rcC l) ∧ (decL rcC l).length ≤ 1073741823)
  | _ => (.one (.c (.bool false)), False)
theorem fi_cal (args : List S1) (h : (fiD args).2) : Cal Try.prog 155 args (fiD args).1 := by
  unfold fiD at h ⊢
  split at h
  · next l0 k =>
    obtain ⟨hl, ho, hn⟩ := h
    obtain ⟨L, rfl⟩ : ∃ l, l0 = encL rcC l := ⟨_, hl.symm⟩
    rw [decL_encL] at hn ho ⊢
    clear hl
    refine DV.of (Γ := ⟨[(181, bsD)], [], []⟩) (rs := [ResultVar.tmp 4, ResultVar.tmp 5]) [0, 1, 4, 5] ⟨by intro p hp; simp only [List.mem_singleton] at hp; subst hp; exact bs_cal, nofun⟩ (by kernel_rfl) Try.func155 rfl rfl (by kernel_rfl) rfl ?_; (repeat (with_reducible first | apply qa | apply qb | apply qc | apply qd | apply qe))
    (apply DV.seqreg; kernel_rfl; (simp only [wpS, wpT, go1, evS, ev, evCallee, evMove, evExtract, evLen, evCall, evCallF, nilB, gdS, put1, sv, gs, gb, opd, cst, outS, cellsS, okS, asSl, setAt, bad, dem, demD, demDs, demB, demC, demCs, demL, deNl, deNls, refS, refD, refDs, refB, refC, refCs, refL, isSh, isShC, anySh, lf, lfs, argsD, plainD, plains, plainR, plainRs, noMut, asP, pOk, nilP, ofCp, Nat.reduceBEq, cv, cvL, wrL, isOwn, argsOb, slim1, argsS, keep, kp, cand, cor, List.map, List.append, Option.bind, ↓reduceIte, Nat.reduceEqDiff, Nat.reduceAdd, Nat.reduceMul, Nat.reduceLT, Nat.reduceLeDiff, reduceCtorEq, Int.reduceLT, Int.reduceLE, Int.reduceBEq, Int.reduceBNe, Int.reduceAdd, Int.reduceSub, Int.reduceToNat, dq, tya, bsD]; exact rfl); (repeat (with_reducible first | apply qa | apply qb | apply qc | apply qd | apply qe)))
    (apply DV.seqreg; kernel_rfl; (simp only [wpS, wpT, go1, evS, ev, evCallee, evMove, evExtract, evLen, evCall, evCallF, nilB, gdS, put1, sv, gs, gb, opd, cst, outS, cellsS, okS, asSl, setAt, bad, dem, demD, demDs, demB, demC, demCs, demL, deNl, deNls, refS, refD, refDs, refB, refC, refCs, refL, isSh, isShC, anySh, lf, lfs, argsD, plainD, plains, plainR, plainRs, noMut, asP, pOk, nilP, ofCp, Nat.reduceBEq, cv, cvL, wrL, isOwn, argsOb, slim1, argsS, keep, kp, cand, cor, List.map, List.append, Option.bind, ↓reduceIte, Nat.reduceEqDiff, Nat.reduceAdd, Nat.reduceMul, Nat.reduceLT, Nat.reduceLeDiff, reduceCtorEq, Int.reduceLT, Int.reduceLE, Int.reduceBEq, Int.reduceBNe, Int.reduceAdd, Int.reduceSub, Int.reduceToNat, dq, tya, bsD, decL_encL, isL_enc, hn, ho]; exact rfl); (repeat (with_reducible first | apply qa | apply qb | apply qc | apply qd | apply qe)))
    (refine DV.ret ?_; (repeat (first | (with_reducible refine thenD_ret' ?_) | (with_reducible refine blockD_ret' ?_))); (with_reducible refine retD_ret' ?_); (try simp only [resOk, resL, rvS, toR, noMu, wpS, wpT, go1, evS, ev, evCallee, evMove, evExtract, evLen, evCall, evCallF, nilB, gdS, put1, sv, gs, gb, opd, cst, outS, cellsS, okS, asSl, setAt, bad, dem, demD, demDs, demB, demC, demCs, demL, deNl, deNls, refS, refD, refDs, refB, refC, refCs, refL, isSh, isShC, anySh, lf, lfs, argsD, plainD, plains, plainR, plainRs, noMut, asP, pOk, nilP, ofCp, Nat.reduceBEq, cv, cvL, wrL, isOwn, argsOb, slim1, argsS, keep, kp, cand, cor, List.map, List.append, Option.bind, ↓reduceIte, Nat.reduceEqDiff, Nat.reduceAdd, Nat.reduceMul, Nat.reduceLT, Nat.reduceLeDiff, reduceCtorEq, Int.reduceLT, Int.reduceLE, Int.reduceBEq, Int.reduceBNe, Int.reduceAdd, Int.reduceSub, Int.reduceToNat, dq, tya, bsD]))
    try decide
  · exact h.elim
def crD : List S1 → CR × Prop
  | [.c (.sl l)] => (.one (.mu 32 2 l), allK 2 l ∧ lfL l ∧ l.length ≤ 1073741823)
  | _ => (.one (.c (.bool false)), False)
theorem cr_cal (args : List S1) (h : (crD args).2) : Cal Try.prog 110 args (crD args).1 := by
  unfold crD at h ⊢
  split at h
  · next l =>
    obtain ⟨hk, hl, hn⟩ := h
    have q1 := Lib.hid (capOk_of (n := l.length) (Nat.le_trans hn (by decide)))
    have q2 := Lib.hid (capB (n := l.length) (k := 16) (Nat.le_trans hn (by decide)) (by decide))
    refine Cal.sn fun b hb => ?_
    refine DV.of (Γ := ⟨[], [], [5]⟩) (rs := [ResultVar.tmp 2]) [0, 2, 4] ⟨nofun, nofun⟩ (by kernel_rfl) Try.func110 rfl rfl (by kernel_rfl) rfl ?_; (repeat (with_reducible first | apply qa | apply qb | apply qc | apply qd | apply qe))
    (apply DV.seqreg; kernel_rfl; (simp only [wpS, wpT, go1, evS, ev, evCallee, evMove, evBin, evLit, evLen, evApp, nilB, gdS, put1, sv, gs, gb, opd, cst, outS, cellsS, okS, asSl, setAt, elsD, elsOb, bad, dem, demD, demDs, demB, demC, demCs, demL, deNl, deNls, refS, refD, refDs, refB, refC, refCs, lf, lfs, srcS, srcOb, asP, pOk, nilP, elsLf, Nat.reduceBEq, appOb, slim1, argsS, keep, kp, cand, cor, List.map, List.append, Option.bind, ↓reduceIte, Nat.reduceEqDiff, Nat.reduceAdd, Nat.reduceMul, Nat.reduceLT, Nat.reduceLeDiff, reduceCtorEq, Int.reduceLT, Int.reduceLE, Int.reduceBEq, Int.reduceBNe, Int.reduceAdd, Int.reduceSub, Int.reduceToNat, dq, tya]; exact rfl); (repeat (with_reducible first | apply qa | apply qb | apply qc | apply qd | apply qe)))
    (apply DV.seqreg; kernel_rfl; (simp only [wpS, wpT, go1, evS, ev, evCallee, evMove, evBin, evLit, evLen, evApp, nilB, gdS, put1, sv, gs, gb, opd, cst, outS, cellsS, okS, asSl, setAt, elsD, elsOb, bad, dem, demD, demDs, demB, demC, demCs, demL, deNl, deNls, refS, refD, refDs, refB, refC, refCs, lf, lfs, srcS, srcOb, asP, pOk, nilP, elsLf, Nat.reduceBEq, appOb, slim1, argsS, keep, kp, cand, cor, List.map, List.append, Option.bind, ↓reduceIte, Nat.reduceEqDiff, Nat.reduceAdd, Nat.reduceMul, Nat.reduceLT, Nat.reduceLeDiff, reduceCtorEq, Int.reduceLT, Int.reduceLE, Int.reduceBEq, Int.reduceBNe, Int.reduceAdd, Int.reduceSub, Int.reduceToNat, dq, tya]; exact rfl); (repeat (with_reducible first | apply qa | apply qb | apply qc | apply qd | apply qe)))
    cases b
    · (refine DV.condF rfl (fun _ => rfl) ?_; (repeat (with_reducible first | apply qa | apply qb | apply qc | apply qd | apply qe)))
      (refine DV.skip ?_; (repeat (with_reducible refine blockD_norm' ?_)); (with_reducible refine thenD_norm' ?_); (repeat (with_reducible first | apply qa | apply qb | apply qc | apply qd | apply qe)))
      (apply DV.seqreg; kernel_rfl; (simp only [wpS, wpT, go1, evS, ev, evCallee, evMove, evBin, evLit, evLen, evApp, nilB, gdS, put1, sv, gs, gb, opd, cst, outS, cellsS, okS, asSl, setAt, elsD, elsOb, bad, dem, demD, demDs, demB, demC, demCs, demL, deNl, deNls, refS, refD, refDs, refB, refC, refCs, lf, lfs, srcS, srcOb, asP, pOk, nilP, elsLf, Nat.reduceBEq, appOb, slim1, argsS, keep, kp, cand, cor, List.map, List.append, Option.bind, ↓reduceIte, Nat.reduceEqDiff, Nat.reduceAdd, Nat.reduceMul, Nat.reduceLT, Nat.reduceLeDiff, reduceCtorEq, Int.reduceLT, Int.reduceLE, Int.reduceBEq, Int.reduceBNe, Int.reduceAdd, Int.reduceSub, Int.reduceToNat, dq, tya, range0, hk, q1.out, q2.out]; exact rfl); (repeat (with_reducible first | apply qa | apply qb | apply qc | apply qd | apply qe)))
      (refine DV.ret ?_; (repeat (first | (with_reducible refine thenD_ret' ?_) | (with_reducible refine blockD_ret' ?_))); (with_reducible refine retD_ret' ?_); (try simp only [resOk, resL, rvS, toR, noMu, wpS, wpT, go1, evS, ev, evCallee, evMove, evBin, evLit, evLen, evApp, nilB, gdS, put1, sv, gs, gb, opd, cst, outS, cellsS, okS, asSl, setAt, elsD, elsOb, bad, dem, demD, demDs, demB, demC, demCs, demL, deNl, deNls, refS, refD, refDs, refB, refC, refCs, lf, lfs, srcS, srcOb, asP, pOk, nilP, elsLf, Nat.reduceBEq, appOb, slim1, argsS, keep, kp, cand, cor, List.map, List.append, Option.bind, ↓reduceIte, Nat.reduceEqDiff, Nat.reduceAdd, Nat.reduceMul, Nat.reduceLT, Nat.reduceLeDiff, reduceCtorEq, Int.reduceLT, Int.reduceLE, Int.reduceBEq, Int.reduceBNe, Int.reduceAdd, Int.reduceSub, Int.reduceToNat, dq, tya, List.take_length, Nat.le_refl, hl]))
    · obtain rfl := hb rfl
      (refine DV.condT rfl (fun _ => rfl) ?_; (repeat (with_reducible first | apply qa | apply qb | apply qc | apply qd | apply qe)))
      (apply DV.seqreg; kernel_rfl; (simp only [wpS, wpT, go1, evS, ev, evCallee, evMove, evBin, evLit, evLen, evApp, nilB, gdS, put1, sv, gs, gb, opd, cst, outS, cellsS, okS, asSl, setAt, elsD, elsOb, bad, dem, demD, demDs, demB, demC, demCs, demL, deNl, deNls, refS, refD, refDs, refB, refC, refCs, lf, lfs, srcS, srcOb, asP, pOk, nilP, elsLf, Nat.reduceBEq, appOb, slim1, argsS, keep, kp, cand, cor, List.map, List.append, Option.bind, ↓reduceIte, Nat.reduceEqDiff, Nat.reduceAdd, Nat.reduceMul, Nat.reduceLT, Nat.reduceLeDiff, reduceCtorEq, Int.reduceLT, Int.reduceLE, Int.reduceBEq, Int.reduceBNe, Int.reduceAdd, Int.reduceSub, Int.reduceToNat, dq, tya]; exact rfl); (repeat (with_reducible first | apply qa | apply qb | apply qc | apply qd | apply qe)))
      (refine DV.ret ?_; (repeat (first | (with_reducible refine thenD_ret' ?_) | (with_reducible refine blockD_ret' ?_))); (with_reducible refine retD_ret' ?_); (try simp only [resOk, resL, rvS, toR, noMu, wpS, wpT, go1, evS, ev, evCallee, evMove, evBin, evLit, evLen, evApp, nilB, gdS, put1, sv, gs, gb, opd, cst, outS, cellsS, okS, asSl, setAt, elsD, elsOb, bad, dem, demD, demDs, demB, demC, demCs, demL, deNl, deNls, refS, refD, refDs, refB, refC, refCs, lf, lfs, srcS, srcOb, asP, pOk, nilP, elsLf, Nat.reduceBEq, appOb, slim1, argsS, keep, kp, cand, cor, List.map, List.append, Option.bind, ↓reduceIte, Nat.reduceEqDiff, Nat.reduceAdd, Nat.reduceMul, Nat.reduceLT, Nat.reduceLeDiff, reduceCtorEq, Int.reduceLT, Int.reduceLE, Int.reduceBEq, Int.reduceBNe, Int.reduceAdd, Int.reduceSub, Int.reduceToNat, dq, tya]))
  · exact h.elim
def ceD : List S1 → CR × Prop
  | [.c (.sl l)] => (.one (.mu 34 4 l), allK 4 l ∧ lfL l ∧ l.length ≤ 1073741823)
  | _ => (.one (.c (.bool false)), False)
theorem ce_cal (args : List S1) (h : (ceD args).2) : Cal Try.prog 109 args (ceD args).1 := by
  unfold ceD at h ⊢
  split at h
  · next l =>
    obtain ⟨hk, hl, hn⟩ := h
    have q1 := Lib.hid (capOk_of (n := l.length) (Nat.le_trans hn (by decide)))
    have q2 := Lib.hid (capB (n := l.length) (k := 32) (Nat.le_trans hn (by decide)) (by decide))
    refine Cal.sn fun b hb => ?_
    refine DV.of (Γ := ⟨[], [], [5]⟩) (rs := [ResultVar.tmp 2]) [0, 2, 4] ⟨nofun, nofun⟩ (by kernel_rfl) Try.func109 rfl rfl (by kernel_rfl) rfl ?_; (repeat (with_reducible first | apply qa | apply qb | apply qc | apply qd | apply qe))
    (apply DV.seqreg; kernel_rfl; (simp only [wpS, wpT, go1, evS, ev, evCallee, evMove, evBin, evLit, evLen, evApp, nilB, gdS, put1, sv, gs, gb, opd, cst, outS, cellsS, okS, asSl, setAt, elsD, elsOb, bad, dem, demD, demDs, demB, demC, demCs, demL, deNl, deNls, refS, refD, refDs, refB, refC, refCs, lf, lfs, srcS, srcOb, asP, pOk, nilP, elsLf, Nat.reduceBEq, appOb, slim1, argsS, keep, kp, cand, cor, List.map, List.append, Option.bind, ↓reduceIte, Nat.reduceEqDiff, Nat.reduceAdd, Nat.reduceMul, Nat.reduceLT, Nat.reduceLeDiff, reduceCtorEq, Int.reduceLT, Int.reduceLE, Int.reduceBEq, Int.reduceBNe, Int.reduceAdd, Int.reduceSub, Int.reduceToNat, dq, tya]; exact rfl); (repeat (with_reducible first | apply qa | apply qb | apply qc | apply qd | apply qe)))
    (apply DV.seqreg; kernel_rfl; (simp only [wpS, wpT, go1, evS, ev, evCallee, evMove, evBin, evLit, evLen, evApp, nilB, gdS, put1, sv, gs, gb, opd, cst, outS, cellsS, okS, asSl, setAt, elsD, elsOb, bad, dem, demD, demDs, demB, demC, demCs, demL, deNl, deNls, refS, refD, refDs, refB, refC, refCs, lf, lfs, srcS, srcOb, asP, pOk, nilP, elsLf, Nat.reduceBEq, appOb, slim1, argsS, keep, kp, cand, cor, List.map, List.append, Option.bind, ↓reduceIte, Nat.reduceEqDiff, Nat.reduceAdd, Nat.reduceMul, Nat.reduceLT, Nat.reduceLeDiff, reduceCtorEq, Int.reduceLT, Int.reduceLE, Int.reduceBEq, Int.reduceBNe, Int.reduceAdd, Int.reduceSub, Int.reduceToNat, dq, tya]; exact rfl); (repeat (with_reducible first | apply qa | apply qb | apply qc | apply qd | apply qe)))
    cases b
    · (refine DV.condF rfl (fun _ => rfl) ?_; (repeat (with_reducible first | apply qa | apply qb | apply qc | apply qd | apply qe)))
      (refine DV.skip ?_; (repeat (with_reducible refine blockD_norm' ?_)); (with_reducible refine thenD_norm' ?_); (repeat (with_reducible first | apply qa | apply qb | apply qc | apply qd | apply qe)))
      (apply DV.seqreg; kernel_rfl; (simp only [wpS, wpT, go1, evS, ev, evCallee, evMove, evBin, evLit, evLen, evApp, nilB, gdS, put1, sv, gs, gb, opd, cst, outS, cellsS, okS, asSl, setAt, elsD, elsOb, bad, dem, demD, demDs, demB, demC, demCs, demL, deNl, deNls, refS, refD, refDs, refB, refC, refCs, lf, lfs, srcS, srcOb, asP, pOk, nilP, elsLf, Nat.reduceBEq, appOb, slim1, argsS, keep, kp, cand, cor, List.map, List.append, Option.bind, ↓reduceIte, Nat.reduceEqDiff, Nat.reduceAdd, Nat.reduceMul, Nat.reduceLT, Nat.reduceLeDiff, reduceCtorEq, Int.reduceLT, Int.reduceLE, Int.reduceBEq, Int.reduceBNe, Int.reduceAdd, Int.reduceSub, Int.reduceToNat, dq, tya, range0, hk, q1.out, q2.out]; exact rfl); (repeat (with_reducible first | apply qa | apply qb | apply qc | apply qd | apply qe)))
      (refine DV.ret ?_; (repeat (first | (with_reducible refine thenD_ret' ?_) | (with_reducible refine blockD_ret' ?_))); (with_reducible refine retD_ret' ?_); (try simp only [resOk, resL, rvS, toR, noMu, wpS, wpT, go1, evS, ev, evCallee, evMove, evBin, evLit, evLen, evApp, nilB, gdS, put1, sv, gs, gb, opd, cst, outS, cellsS, okS, asSl, setAt, elsD, elsOb, bad, dem, demD, demDs, demB, demC, demCs, demL, deNl, deNls, refS, refD, refDs, refB, refC, refCs, lf, lfs, srcS, srcOb, asP, pOk, nilP, elsLf, Nat.reduceBEq, appOb, slim1, argsS, keep, kp, cand, cor, List.map, List.append, Option.bind, ↓reduceIte, Nat.reduceEqDiff, Nat.reduceAdd, Nat.reduceMul, Nat.reduceLT, Nat.reduceLeDiff, reduceCtorEq, Int.reduceLT, Int.reduceLE, Int.reduceBEq, Int.reduceBNe, Int.reduceAdd, Int.reduceSub, Int.reduceToNat, dq, tya, List.take_length, Nat.le_refl, hl]))
    · obtain rfl := hb rfl
      (refine DV.condT rfl (fun _ => rfl) ?_; (repeat (with_reducible first | apply qa | apply qb | apply qc | apply qd | apply qe)))
      (apply DV.seqreg; kernel_rfl; (simp only [wpS, wpT, go1, evS, ev, evCallee, evMove, evBin, evLit, evLen, evApp, nilB, gdS, put1, sv, gs, gb, opd, cst, outS, cellsS, okS, asSl, setAt, elsD, elsOb, bad, dem, demD, demDs, demB, demC, demCs, demL, deNl, deNls, refS, refD, refDs, refB, refC, refCs, lf, lfs, srcS, srcOb, asP, pOk, nilP, elsLf, Nat.reduceBEq, appOb, slim1, argsS, keep, kp, cand, cor, List.map, List.append, Option.bind, ↓reduceIte, Nat.reduceEqDiff, Nat.reduceAdd, Nat.reduceMul, Nat.reduceLT, Nat.reduceLeDiff, reduceCtorEq, Int.reduceLT, Int.reduceLE, Int.reduceBEq, Int.reduceBNe, Int.reduceAdd, Int.reduceSub, Int.reduceToNat, dq, tya]; exact rfl); (repeat (with_reducible first | apply qa | apply qb | apply qc | apply qd | apply qe)))
      (refine DV.ret ?_; (repeat (first | (with_reducible refine thenD_ret' ?_) | (with_reducible refine blockD_ret' ?_))); (with_reducible refine retD_ret' ?_); (try simp only [resOk, resL, rvS, toR, noMu, wpS, wpT, go1, evS, ev, evCallee, evMove, evBin, evLit, evLen, evApp, nilB, gdS, put1, sv, gs, gb, opd, cst, outS, cellsS, okS, asSl, setAt, elsD, elsOb, bad, dem, demD, demDs, demB, demC, demCs, demL, deNl, deNls, refS, refD, refDs, refB, refC, refCs, lf, lfs, srcS, srcOb, asP, pOk, nilP, elsLf, Nat.reduceBEq, appOb, slim1, argsS, keep, kp, cand, cor, List.map, List.append, Option.bind, ↓reduceIte, Nat.reduceEqDiff, Nat.reduceAdd, Nat.reduceMul, Nat.reduceLT, Nat.reduceLeDiff, reduceCtorEq, Int.reduceLT, Int.reduceLE, Int.reduceBEq, Int.reduceBNe, Int.reduceAdd, Int.reduceSub, Int.reduceToNat, dq, tya]))
  · exact h.elim
def cvD : List S1 → CR × Prop
  | [.c (.sl l)] => (.one (.mu 116 2 l), allK 2 l ∧ lfL l ∧ l.length ≤ 1073741823)
  | _ => (.one (.c (.bool false)), False)
theorem cv_cal (args : List S1) (h : (cvD args).2) : Cal Try.prog 59 args (cvD args).1 := by
  unfold cvD at h ⊢
  split at h
  · next l =>
    obtain ⟨hk, hl, hn⟩ := h
    have q1 := Lib.hid (capOk_of (n := l.length) (Nat.le_trans hn (by decide)))
    have q2 := Lib.hid (capB (n := l.length) (k := 32) (Nat.le_trans hn (by decide)) (by decide))
    refine Cal.sn fun b hb => ?_
    refine DV.of (Γ := ⟨[], [], [5]⟩) (rs := [ResultVar.tmp 2]) [0, 2, 4] ⟨nofun, nofun⟩ (by kernel_rfl) Try.func59 rfl rfl (by kernel_rfl) rfl ?_; (repeat (with_reducible first | apply qa | apply qb | apply qc | apply qd | apply qe))
    (apply DV.seqreg; kernel_rfl; (simp only [wpS, wpT, go1, evS, ev, evCallee, evMove, evBin, evLit, evLen, evApp, nilB, gdS, put1, sv, gs, gb, opd, cst, outS, cellsS, okS, asSl, setAt, elsD, elsOb, bad, dem, demD, demDs, demB, demC, demCs, demL, deNl, deNls, refS, refD, refDs, refB, refC, refCs, lf, lfs, srcS, srcOb, asP, pOk, nilP, elsLf, Nat.reduceBEq, appOb, slim1, argsS, keep, kp, cand, cor, List.map, List.append, Option.bind, ↓reduceIte, Nat.reduceEqDiff, Nat.reduceAdd, Nat.reduceMul, Nat.reduceLT, Nat.reduceLeDiff, reduceCtorEq, Int.reduceLT, Int.reduceLE, Int.reduceBEq, Int.reduceBNe, Int.reduceAdd, Int.reduceSub, Int.reduceToNat, dq, tya]; exact rfl); (repeat (with_reducible first | apply qa | apply qb | apply qc | apply qd | apply qe)))
    (apply DV.seqreg; kernel_rfl; (simp only [wpS, wpT, go1, evS, ev, evCallee, evMove, evBin, evLit, evLen, evApp, nilB, gdS, put1, sv, gs, gb, opd, cst, outS, cellsS, okS, asSl, setAt, elsD, elsOb, bad, dem, demD, demDs, demB, demC, demCs, demL, deNl, deNls, refS, refD, refDs, refB, refC, refCs, lf, lfs, srcS, srcOb, asP, pOk, nilP, elsLf, Nat.reduceBEq, appOb, slim1, argsS, keep, kp, cand, cor, List.map, List.append, Option.bind, ↓reduceIte, Nat.reduceEqDiff, Nat.reduceAdd, Nat.reduceMul, Nat.reduceLT, Nat.reduceLeDiff, reduceCtorEq, Int.reduceLT, Int.reduceLE, Int.reduceBEq, Int.reduceBNe, Int.reduceAdd, Int.reduceSub, Int.reduceToNat, dq, tya]; exact rfl); (repeat (with_reducible first | apply qa | apply qb | apply qc | apply qd | apply qe)))
    cases b
    · (refine DV.condF rfl (fun _ => rfl) ?_; (repeat (with_reducible first | apply qa | apply qb | apply qc | apply qd | apply qe)))
      (refine DV.skip ?_; (repeat (with_reducible refine blockD_norm' ?_)); (with_reducible refine thenD_norm' ?_); (repeat (with_reducible first | apply qa | apply qb | apply qc | apply qd | apply qe)))
      (apply DV.seqreg; kernel_rfl; (simp only [wpS, wpT, go1, evS, ev, evCallee, evMove, evBin, evLit, evLen, evApp, nilB, gdS, put1, sv, gs, gb, opd, cst, outS, cellsS, okS, asSl, setAt, elsD, elsOb, bad, dem, demD, demDs, demB, demC, demCs, demL, deNl, deNls, refS, refD, refDs, refB, refC, refCs, lf, lfs, srcS, srcOb, asP, pOk, nilP, elsLf, Nat.reduceBEq, appOb, slim1, argsS, keep, kp, cand, cor, List.map, List.append, Option.bind, ↓reduceIte, Nat.reduceEqDiff, Nat.reduceAdd, Nat.reduceMul, Nat.reduceLT, Nat.reduceLeDiff, reduceCtorEq, Int.reduceLT, Int.reduceLE, Int.reduceBEq, Int.reduceBNe, Int.reduceAdd, Int.reduceSub, Int.reduceToNat, dq, tya, range0, hk, q1.out, q2.out]; exact rfl); (repeat (with_reducible first | apply qa | apply qb | apply qc | apply qd | apply qe)))
      (refine DV.ret ?_; (repeat (first | (with_reducible refine thenD_ret' ?_) | (with_reducible refine blockD_ret' ?_))); (with_reducible refine retD_ret' ?_); (try simp only [resOk, resL, rvS, toR, noMu, wpS, wpT, go1, evS, ev, evCallee, evMove, evBin, evLit, evLen, evApp, nilB, gdS, put1, sv, gs, gb, opd, cst, outS, cellsS, okS, asSl, setAt, elsD, elsOb, bad, dem, demD, demDs, demB, demC, demCs, demL, deNl, deNls, refS, refD, refDs, refB, refC, refCs, lf, lfs, srcS, srcOb, asP, pOk, nilP, elsLf, Nat.reduceBEq, appOb, slim1, argsS, keep, kp, cand, cor, List.map, List.append, Option.bind, ↓reduceIte, Nat.reduceEqDiff, Nat.reduceAdd, Nat.reduceMul, Nat.reduceLT, Nat.reduceLeDiff, reduceCtorEq, Int.reduceLT, Int.reduceLE, Int.reduceBEq, Int.reduceBNe, Int.reduceAdd, Int.reduceSub, Int.reduceToNat, dq, tya, List.take_length, Nat.le_refl, hl]))
    · obtain rfl := hb rfl
      (refine DV.condT rfl (fun _ => rfl) ?_; (repeat (with_reducible first | apply qa | apply qb | apply qc | apply qd | apply qe)))
      (apply DV.seqreg; kernel_rfl; (simp only [wpS, wpT, go1, evS, ev, evCallee, evMove, evBin, evLit, evLen, evApp, nilB, gdS, put1, sv, gs, gb, opd, cst, outS, cellsS, okS, asSl, setAt, elsD, elsOb, bad, dem, demD, demDs, demB, demC, demCs, demL, deNl, deNls, refS, refD, refDs, refB, refC, refCs, lf, lfs, srcS, srcOb, asP, pOk, nilP, elsLf, Nat.reduceBEq, appOb, slim1, argsS, keep, kp, cand, cor, List.map, List.append, Option.bind, ↓reduceIte, Nat.reduceEqDiff, Nat.reduceAdd, Nat.reduceMul, Nat.reduceLT, Nat.reduceLeDiff, reduceCtorEq, Int.reduceLT, Int.reduceLE, Int.reduceBEq, Int.reduceBNe, Int.reduceAdd, Int.reduceSub, Int.reduceToNat, dq, tya]; exact rfl); (repeat (with_reducible first | apply qa | apply qb | apply qc | apply qd | apply qe)))
      (refine DV.ret ?_; (repeat (first | (with_reducible refine thenD_ret' ?_) | (with_reducible refine blockD_ret' ?_))); (with_reducible refine retD_ret' ?_); (try simp only [resOk, resL, rvS, toR, noMu, wpS, wpT, go1, evS, ev, evCallee, evMove, evBin, evLit, evLen, evApp, nilB, gdS, put1, sv, gs, gb, opd, cst, outS, cellsS, okS, asSl, setAt, elsD, elsOb, bad, dem, demD, demDs, demB, demC, demCs, demL, deNl, deNls, refS, refD, refDs, refB, refC, refCs, lf, lfs, srcS, srcOb, asP, pOk, nilP, elsLf, Nat.reduceBEq, appOb, slim1, argsS, keep, kp, cand, cor, List.map, List.append, Option.bind, ↓reduceIte, Nat.reduceEqDiff, Nat.reduceAdd, Nat.reduceMul, Nat.reduceLT, Nat.reduceLeDiff, reduceCtorEq, Int.reduceLT, Int.reduceLE, Int.reduceBEq, Int.reduceBNe, Int.reduceAdd, Int.reduceSub, Int.reduceToNat, dq, tya]))
  · exact h.elim
end Go.Proofs.Ytkmgdejpdhlleaa.Dq

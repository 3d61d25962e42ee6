/- State by versions by deep values: awake. -/
import Derived.Test.YtkmgdejpdhlleaaVsS
import Derived.Test.YtkmgdejpdhlleaaVsO
namespace Go.Proofs.Ytkmgdejpdhlleaa.Dq
set_option linter.unusedSimpArgs false
set_option linter.unusedVariables false
set_option maxRecDepth 100000
open Go.RowKit
open Vs

def awT : Nat → Int
  | 0 => 1
  | 1 => 5
  | _ => 3
def awE (j : Nat) : En := ⟨awT j, 7, awT j, 1⟩
def vs0 (e : Int) : Vs := ⟨[], [], e, 0, 0, 0⟩
def awS : Nat → Vs
  | 0 => vs0 1
  | j + 1 => (comeS (awS j) (awE j)).1
theorem Inv.zero {e : Int} (h1 : 1 ≤ e) (h2 : e ≤ 100) : Inv (vs0 e) := by
  have hb : base (vs0 e) = [] := rfl
  exact ⟨⟨h1, h2⟩, ⟨by show (0 : Int) ≤ 0; decide, by show (0 : Int) ≤ 1048577; decide⟩, nofun, List.Pairwise.nil, nofun, List.Pairwise.nil, fun h => absurd h (by show ¬ (0 : Int) > 0; decide), by rw [hb]; exact List.Pairwise.nil⟩
theorem base0 {v : Vs} (h : v.cut = 0) : base v = [] := by
  unfold base
  rw [if_neg (by omega)]
theorem Bd.zero {v : Vs} (h : v.cut = 0) (hl : v.log.length ≤ 1000) : Bd v := ⟨hl, by rw [base0 h]; exact Nat.zero_le _⟩
theorem awS_ok : ∀ j, Inv (awS j) ∧ (awS j).cut = 0 ∧ (awS j).log.length ≤ j
  | 0 => ⟨Inv.zero (by decide) (by decide), rfl, Nat.le_refl _⟩
  | j + 1 => by
    obtain ⟨h1, h2, h3⟩ := awS_ok j
    obtain ⟨g1, -, g3, g4⟩ := Inv.cm h1 (awE j)
    exact ⟨g1, g3.trans h2, Nat.le_trans g4 (Nat.succ_le_succ h3)⟩
theorem awS_end : staS (awS 3) 4 = ([⟨7, 4⟩], 0) ∧ (awS 3).rolled = 1 ∧ (awS 3).again = 1 := by decide
def awkD : List S1 → CR × Prop
  | [] => (.one (.c (.bool true)), True)
  | _ => (.one (.c (.bool false)), False)
set_option maxHeartbeats 8000000 in
theorem awk_cal (args : List S1) (h : (awkD args).2) : Cal Try.prog 12 args (awkD args).1 := by
  unfold awkD at h ⊢
  split at h
  · have hne : ((1 : Int) < 1 ∨ (100 : Int) < 1) = False := eq_false (by decide)
    obtain ⟨z1, z2, z3⟩ := awS_end
    refine DV.of (Γ := ⟨[(13, neD), (14, cmeD), (16, stD)], [], []⟩) (rs := [ResultVar.tmp 0]) [0, 1, 2, 4, 5, 6, 11, 12, 13, 14] ⟨by intro p hp; simp only [List.mem_cons, List.not_mem_nil, or_false] at hp; rcases hp with rfl | rfl | rfl; exact ne_cal; exact cme_cal; exact st_cal, nofun⟩ (by kernel_rfl) Try.func12 rfl rfl (by kernel_rfl) rfl ?_; (repeat (with_reducible first | apply qa | apply qb | apply qc | apply qd | apply qe))
    (apply DV.seqreg; kernel_rfl; (simp only [wpS, wpT, go1, evS, ev, evCallee, evMove, evPick, evBin, evFieldAddr, evIndexAddr, evExtract, evLoad, evAlloc, evStore, evBuild, evLit, evLen, evCall, evCallF, nilB, gdS, put1, sv, gs, gb, opd, cst, outS, cellsS, okS, asSl, setAt, elsD, elsOb, fillD, bad, dem, demD, demDs, demB, demC, demCs, demL, deNl, deNls, stC, refS, refD, refDs, refB, refC, refCs, refL, isSh, isShC, anySh, lf, lfs, argsD, plainD, plains, plainR, plainRs, noMut, asP, pOk, nilP, ofCp, elsLf, Nat.reduceBEq, cv, cvL, wrL, isOwn, argsOb, slim1, argsS, keep, kp, cand, cor, List.map, List.append, Option.bind, ↓reduceIte, Nat.reduceEqDiff, Nat.reduceAdd, Nat.reduceMul, Nat.reduceLT, Nat.reduceLeDiff, reduceCtorEq, Int.reduceLT, Int.reduceLE, Int.reduceBEq, Int.reduceBNe, Int.reduceAdd, Int.reduceSub, Int.reduceToNat, dq, tya, neD, cmeD, stD]; exact rfl); (repeat (with_reducible first | apply qa | apply qb | apply qc | apply qd | apply qe)))
    (apply DV.seqreg; kernel_rfl; (simp only [wpS, wpT, go1, evS, ev, evCallee, evMove, evPick, evBin, evFieldAddr, evIndexAddr, evExtract, evLoad, evAlloc, evStore, evBuild, evLit, evLen, evCall, evCallF, nilB, gdS, put1, sv, gs, gb, opd, cst, outS, cellsS, okS, asSl, setAt, elsD, elsOb, fillD, bad, dem, demD, demDs, demB, demC, demCs, demL, deNl, deNls, stC, refS, refD, refDs, refB, refC, refCs, refL, isSh, isShC, anySh, lf, lfs, argsD, plainD, plains, plainR, plainRs, noMut, asP, pOk, nilP, ofCp, elsLf, Nat.reduceBEq, cv, cvL, wrL, isOwn, argsOb, slim1, argsS, keep, kp, cand, cor, List.map, List.append, Option.bind, ↓reduceIte, Nat.reduceEqDiff, Nat.reduceAdd, Nat.reduceMul, Nat.reduceLT, Nat.reduceLeDiff, reduceCtorEq, Int.reduceLT, Int.reduceLE, Int.reduceBEq, Int.reduceBNe, Int.reduceAdd, Int.reduceSub, Int.reduceToNat, dq, tya, neD, cmeD, stD, hne, vsE, encL_nil]; exact rfl); (repeat (with_reducible first | apply qa | apply qb | apply qc | apply qd | apply qe)))
    (apply DV.seqreg; kernel_rfl; (simp only [wpS, wpT, go1, evS, ev, evCallee, evMove, evPick, evBin, evFieldAddr, evIndexAddr, evExtract, evLoad, evAlloc, evStore, evBuild, evLit, evLen, evCall, evCallF, nilB, gdS, put1, sv, gs, gb, opd, cst, outS, cellsS, okS, asSl, setAt, elsD, elsOb, fillD, bad, dem, demD, demDs, demB, demC, demCs, demL, deNl, deNls, stC, refS, refD, refDs, refB, refC, refCs, refL, isSh, isShC, anySh, lf, lfs, argsD, plainD, plains, plainR, plainRs, noMut, asP, pOk, nilP, ofCp, elsLf, Nat.reduceBEq, cv, cvL, wrL, isOwn, argsOb, slim1, argsS, keep, kp, cand, cor, List.map, List.append, Option.bind, ↓reduceIte, Nat.reduceEqDiff, Nat.reduceAdd, Nat.reduceMul, Nat.reduceLT, Nat.reduceLeDiff, reduceCtorEq, Int.reduceLT, Int.reduceLE, Int.reduceBEq, Int.reduceBNe, Int.reduceAdd, Int.reduceSub, Int.reduceToNat, dq, tya, neD, cmeD, stD, range3]; exact rfl); (repeat (with_reducible first | apply qa | apply qb | apply qc | apply qd | apply qe)))
    refine DV.loop (fun j : Nat => ⟨[(1, .v true (.box 1 0)), (2, .v true (.c (.int .i64 0))), (11, .v true (.c (.sl [[.int .i64 1], [.int .i64 5], [.int .i64 3]]))), (12, .v true (.c (.int .i64 3))), (13, .v true (.c (.int .i64 j)))], [(1, some ⟨0, 0, [[.sl (encL enC (awS j).log), .sl (encL vnC (awS j).kept), .int .i64 (awS j).every, .int .i64 (awS j).cut, .int .i64 (awS j).rolled, .int .i64 (awS j).again]]⟩)], []⟩) (fun j => j ≤ 3) (fun j => 3 - j) 0 (Nat.zero_le _) (by
      have e0 : awS 0 = ⟨[], [], 1, 0, 0, 0⟩ := rfl
      rw [e0]
      (refine wk_of [] ?_ ?_ ?_ ?_ ?_ <;> (simp only [false_and, and_false, and_self, wkS, wkB, wkR, wkP, convV, convS, convD, convDs, convB, convO, convC, convCs, look, carried, injB, convDs_enc, lkL_encL, lkL_nil, lkL_app, lkL_cons, encL_nil, encL_app, encL_cons, List.length_append, gdS, put1, sv, gs, gb, cellsS, setAt, bad, dem, demD, demDs, demB, demC, demCs, demL, deNl, deNls, refD, refDs, lf, lfs, pOk, Nat.reduceBEq, slim1, argsS, keep, kp, cand, cor, List.map, List.append, Option.bind, ↓reduceIte, Nat.reduceEqDiff, Nat.reduceAdd, Nat.reduceMul, Nat.reduceLT, Nat.reduceLeDiff, reduceCtorEq, Int.reduceLT, Int.reduceLE, Int.reduceBEq, Int.reduceBNe, Int.reduceAdd, Int.reduceSub, Int.reduceToNat, dq, n0]; try trivial))) (fun j hj => ?_)
    (repeat (with_reducible first | apply qa | apply qb | apply qc | apply qd | apply qe))
    obtain ⟨hi, hc, hl⟩ := awS_ok j
    have hb := Bd.zero hc (by omega)
    have hvd : vsC.dec [D.sl (encL enC (awS j).log), D.sl (encL vnC (awS j).kept), D.int .i64 (awS j).every, D.int .i64 (awS j).cut, D.int .i64 (awS j).rolled, D.int .i64 (awS j).again] = awS j := vsC.de (awS j)
    by_cases hlt : j < 3
    · have ew := wr1 j (by omega)
      have hnx : (comeS (awS j) (awE j)).1 = awS (j + 1) := rfl
      have h3 : j = 0 ∨ j = 1 ∨ j = 2 := by omega
      have d1 : decide ((j : Int) < 3) = true := decide_eq_true (by omega)
      have c1 : (0 : Int) ≤ j := by omega
      have c2 : (j : Int) < ((3 : Nat) : Int) := by omega
      have c3 : ([[D.int .i64 1], [D.int .i64 5], [D.int .i64 3]] : List (List D))[j]? = some [D.int .i64 (awT j)] := by rcases h3 with rfl | rfl | rfl <;> rfl
      have hed : enC.dec [D.int .i64 (awT j), D.int .i64 7, D.int .i64 (awT j), D.int .i64 1] = awE j := rfl
      have hee : enC.enc (awE j) = [D.int .i64 (awT j), D.int .i64 7, D.int .i64 (awT j), D.int .i64 1] := rfl
      (apply DV.seqreg; kernel_rfl; (simp only [wpS, wpT, go1, evS, ev, evCallee, evMove, evPick, evBin, evFieldAddr, evIndexAddr, evExtract, evLoad, evAlloc, evStore, evBuild, evLit, evLen, evCall, evCallF, nilB, gdS, put1, sv, gs, gb, opd, cst, outS, cellsS, okS, asSl, setAt, elsD, elsOb, fillD, bad, dem, demD, demDs, demB, demC, demCs, demL, deNl, deNls, stC, refS, refD, refDs, refB, refC, refCs, refL, isSh, isShC, anySh, lf, lfs, argsD, plainD, plains, plainR, plainRs, noMut, asP, pOk, nilP, ofCp, elsLf, Nat.reduceBEq, cv, cvL, wrL, isOwn, argsOb, slim1, argsS, keep, kp, cand, cor, List.map, List.append, Option.bind, ↓reduceIte, Nat.reduceEqDiff, Nat.reduceAdd, Nat.reduceMul, Nat.reduceLT, Nat.reduceLeDiff, reduceCtorEq, Int.reduceLT, Int.reduceLE, Int.reduceBEq, Int.reduceBNe, Int.reduceAdd, Int.reduceSub, Int.reduceToNat, dq, tya, neD, cmeD, stD, d1]; exact rfl); (repeat (with_reducible first | apply qa | apply qb | apply qc | apply qd | apply qe)))
      (refine DV.condT rfl (fun _ => rfl) ?_; (repeat (with_reducible first | apply qa | apply qb | apply qc | apply qd | apply qe)))
      (refine DV.skip ?_; (repeat (with_reducible refine blockD_norm' ?_)); (with_reducible refine thenD_norm' ?_); (repeat (with_reducible first | apply qa | apply qb | apply qc | apply qd | apply qe)))
      (apply DV.seqreg; kernel_rfl; (simp only [wpS, wpT, go1, evS, ev, evCallee, evMove, evPick, evBin, evFieldAddr, evIndexAddr, evExtract, evLoad, evAlloc, evStore, evBuild, evLit, evLen, evCall, evCallF, nilB, gdS, put1, sv, gs, gb, opd, cst, outS, cellsS, okS, asSl, setAt, elsD, elsOb, fillD, bad, dem, demD, demDs, demB, demC, demCs, demL, deNl, deNls, stC, refS, refD, refDs, refB, refC, refCs, refL, isSh, isShC, anySh, lf, lfs, argsD, plainD, plains, plainR, plainRs, noMut, asP, pOk, nilP, ofCp, elsLf, Nat.reduceBEq, cv, cvL, wrL, isOwn, argsOb, slim1, argsS, keep, kp, cand, cor, List.map, List.append, Option.bind, ↓reduceIte, Nat.reduceEqDiff, Nat.reduceAdd, Nat.reduceMul, Nat.reduceLT, Nat.reduceLeDiff, reduceCtorEq, Int.reduceLT, Int.reduceLE, Int.reduceBEq, Int.reduceBNe, Int.reduceAdd, Int.reduceSub, Int.reduceToNat, dq, tya, neD, cmeD, stD, i2n, c1, c2, c3]; exact rfl); (repeat (with_reducible first | apply qa | apply qb | apply qc | apply qd | apply qe)))
      (apply DV.reg; kernel_rfl; (simp only [wpS, wpT, go1, evS, ev, evCallee, evMove, evPick, evBin, evFieldAddr, evIndexAddr, evExtract, evLoad, evAlloc, evStore, evBuild, evLit, evLen, evCall, evCallF, nilB, gdS, put1, sv, gs, gb, opd, cst, outS, cellsS, okS, asSl, setAt, elsD, elsOb, fillD, bad, dem, demD, demDs, demB, demC, demCs, demL, deNl, deNls, stC, refS, refD, refDs, refB, refC, refCs, refL, isSh, isShC, anySh, lf, lfs, argsD, plainD, plains, plainR, plainRs, noMut, asP, pOk, nilP, ofCp, elsLf, Nat.reduceBEq, cv, cvL, wrL, isOwn, argsOb, slim1, argsS, keep, kp, cand, cor, List.map, List.append, Option.bind, ↓reduceIte, Nat.reduceEqDiff, Nat.reduceAdd, Nat.reduceMul, Nat.reduceLT, Nat.reduceLeDiff, reduceCtorEq, Int.reduceLT, Int.reduceLE, Int.reduceBEq, Int.reduceBNe, Int.reduceAdd, Int.reduceSub, Int.reduceToNat, dq, tya, neD, cmeD, stD, hvd, hed, hee, hi, hb, hnx, vsE]; exact rfl); (repeat (with_reducible refine blockD_norm' ?_)); (try with_reducible refine thenD_norm' ?_); (repeat (with_reducible first | apply qa | apply qb | apply qc | apply qd | apply qe)))
      (apply DV.reg; kernel_rfl; (simp only [wpS, wpT, go1, evS, ev, evCallee, evMove, evPick, evBin, evFieldAddr, evIndexAddr, evExtract, evLoad, evAlloc, evStore, evBuild, evLit, evLen, evCall, evCallF, nilB, gdS, put1, sv, gs, gb, opd, cst, outS, cellsS, okS, asSl, setAt, elsD, elsOb, fillD, bad, dem, demD, demDs, demB, demC, demCs, demL, deNl, deNls, stC, refS, refD, refDs, refB, refC, refCs, refL, isSh, isShC, anySh, lf, lfs, argsD, plainD, plains, plainR, plainRs, noMut, asP, pOk, nilP, ofCp, elsLf, Nat.reduceBEq, cv, cvL, wrL, isOwn, argsOb, slim1, argsS, keep, kp, cand, cor, List.map, List.append, Option.bind, ↓reduceIte, Nat.reduceEqDiff, Nat.reduceAdd, Nat.reduceMul, Nat.reduceLT, Nat.reduceLeDiff, reduceCtorEq, Int.reduceLT, Int.reduceLE, Int.reduceBEq, Int.reduceBNe, Int.reduceAdd, Int.reduceSub, Int.reduceToNat, dq, tya, neD, cmeD, stD, ew]; exact rfl); (repeat (with_reducible refine blockD_norm' ?_)); (try with_reducible refine thenD_norm' ?_); (repeat (with_reducible first | apply qa | apply qb | apply qc | apply qd | apply qe)))
      exact ⟨j + 1, ⟨hlt, by omega⟩, by (refine wk_of [] ?_ ?_ ?_ ?_ ?_ <;> (simp only [false_and, and_false, and_self, wkS, wkB, wkR, wkP, convV, convS, convD, convDs, convB, convO, convC, convCs, look, carried, injB, convDs_enc, lkL_encL, lkL_nil, lkL_app, lkL_cons, encL_nil, encL_app, encL_cons, List.length_append, gdS, put1, sv, gs, gb, cellsS, setAt, bad, dem, demD, demDs, demB, demC, demCs, demL, deNl, deNls, refD, refDs, lf, lfs, pOk, Nat.reduceBEq, slim1, argsS, keep, kp, cand, cor, List.map, List.append, Option.bind, ↓reduceIte, Nat.reduceEqDiff, Nat.reduceAdd, Nat.reduceMul, Nat.reduceLT, Nat.reduceLeDiff, reduceCtorEq, Int.reduceLT, Int.reduceLE, Int.reduceBEq, Int.reduceBNe, Int.reduceAdd, Int.reduceSub, Int.reduceToNat, dq]; try trivial))⟩
    · obtain rfl : j = 3 := by omega
      have d1 : decide (((3 : Nat) : Int) < 3) = false := by decide
      (apply DV.seqreg; kernel_rfl; (simp only [wpS, wpT, go1, evS, ev, evCallee, evMove, evPick, evBin, evFieldAddr, evIndexAddr, evExtract, evLoad, evAlloc, evStore, evBuild, evLit, evLen, evCall, evCallF, nilB, gdS, put1, sv, gs, gb, opd, cst, outS, cellsS, okS, asSl, setAt, elsD, elsOb, fillD, bad, dem, demD, demDs, demB, demC, demCs, demL, deNl, deNls, stC, refS, refD, refDs, refB, refC, refCs, refL, isSh, isShC, anySh, lf, lfs, argsD, plainD, plains, plainR, plainRs, noMut, asP, pOk, nilP, ofCp, elsLf, Nat.reduceBEq, cv, cvL, wrL, isOwn, argsOb, slim1, argsS, keep, kp, cand, cor, List.map, List.append, Option.bind, ↓reduceIte, Nat.reduceEqDiff, Nat.reduceAdd, Nat.reduceMul, Nat.reduceLT, Nat.reduceLeDiff, reduceCtorEq, Int.reduceLT, Int.reduceLE, Int.reduceBEq, Int.reduceBNe, Int.reduceAdd, Int.reduceSub, Int.reduceToNat, dq, tya, neD, cmeD, stD, d1]; exact rfl); (repeat (with_reducible first | apply qa | apply qb | apply qc | apply qd | apply qe)))
      (refine DV.condF rfl (fun _ => rfl) ?_; (repeat (with_reducible first | apply qa | apply qb | apply qc | apply qd | apply qe)))
      (refine DV.exit ?_; (repeat (first | (with_reducible refine thenD_exit' ?_) | (with_reducible refine blockD_other (by decide) ?_))); (with_reducible refine blockD_same ?_); (repeat (with_reducible refine blockD_norm' ?_)); (with_reducible refine thenD_norm' ?_); (repeat (with_reducible first | apply qa | apply qb | apply qc | apply qd | apply qe)))
      (apply DV.seqreg; kernel_rfl; (simp only [wpS, wpT, go1, evS, ev, evCallee, evMove, evPick, evBin, evFieldAddr, evIndexAddr, evExtract, evLoad, evAlloc, evStore, evBuild, evLit, evLen, evCall, evCallF, nilB, gdS, put1, sv, gs, gb, opd, cst, outS, cellsS, okS, asSl, setAt, elsD, elsOb, fillD, bad, dem, demD, demDs, demB, demC, demCs, demL, deNl, deNls, stC, refS, refD, refDs, refB, refC, refCs, refL, isSh, isShC, anySh, lf, lfs, argsD, plainD, plains, plainR, plainRs, noMut, asP, pOk, nilP, ofCp, elsLf, Nat.reduceBEq, cv, cvL, wrL, isOwn, argsOb, slim1, argsS, keep, kp, cand, cor, List.map, List.append, Option.bind, ↓reduceIte, Nat.reduceEqDiff, Nat.reduceAdd, Nat.reduceMul, Nat.reduceLT, Nat.reduceLeDiff, reduceCtorEq, Int.reduceLT, Int.reduceLE, Int.reduceBEq, Int.reduceBNe, Int.reduceAdd, Int.reduceSub, Int.reduceToNat, dq, tya, neD, cmeD, stD, hvd, hi, hb, vsE, z1, encL_cons, encL_nil, rcE]; exact rfl); (repeat (with_reducible first | apply qa | apply qb | apply qc | apply qd | apply qe)))
      have y1 : ((0 : Int) == 0) = true := by decide
      have y2 : (((1 : Nat) : Int) == 1) = true := by decide
      have y5 : (0 : Int) < ((1 : Nat) : Int) := by decide
      have y6 : (0 : Int) ≤ 0 := by decide
      have y7 : ((0 : Int)).toNat = 0 := rfl
      have y3 : ((4 : Int) == 4) = true := by decide
      have y4 : ((1 : Int) == 1) = true := by decide
      (apply DV.seqreg; kernel_rfl; (simp only [wpS, wpT, go1, evS, ev, evCallee, evMove, evPick, evBin, evFieldAddr, evIndexAddr, evExtract, evLoad, evAlloc, evStore, evBuild, evLit, evLen, evCall, evCallF, nilB, gdS, put1, sv, gs, gb, opd, cst, outS, cellsS, okS, asSl, setAt, elsD, elsOb, fillD, bad, dem, demD, demDs, demB, demC, demCs, demL, deNl, deNls, stC, refS, refD, refDs, refB, refC, refCs, refL, isSh, isShC, anySh, lf, lfs, argsD, plainD, plains, plainR, plainRs, noMut, asP, pOk, nilP, ofCp, elsLf, Nat.reduceBEq, cv, cvL, wrL, isOwn, argsOb, slim1, argsS, keep, kp, cand, cor, List.map, List.append, Option.bind, ↓reduceIte, Nat.reduceEqDiff, Nat.reduceAdd, Nat.reduceMul, Nat.reduceLT, Nat.reduceLeDiff, reduceCtorEq, Int.reduceLT, Int.reduceLE, Int.reduceBEq, Int.reduceBNe, Int.reduceAdd, Int.reduceSub, Int.reduceToNat, dq, tya, neD, cmeD, stD, z2, z3, y1, y2, y3, y4, y5, y6, y7]; exact rfl); (repeat (with_reducible first | apply qa | apply qb | apply qc | apply qd | apply qe)))
      (refine DV.ret ?_; (repeat (first | (with_reducible refine thenD_ret' ?_) | (with_reducible refine blockD_ret' ?_))); (with_reducible refine retD_ret' ?_); (try simp only [resOk, resL, rvS, toR, noMu, wpS, wpT, go1, evS, ev, evCallee, evMove, evPick, evBin, evFieldAddr, evIndexAddr, evExtract, evLoad, evAlloc, evStore, evBuild, evLit, evLen, evCall, evCallF, nilB, gdS, put1, sv, gs, gb, opd, cst, outS, cellsS, okS, asSl, setAt, elsD, elsOb, fillD, bad, dem, demD, demDs, demB, demC, demCs, demL, deNl, deNls, stC, refS, refD, refDs, refB, refC, refCs, refL, isSh, isShC, anySh, lf, lfs, argsD, plainD, plains, plainR, plainRs, noMut, asP, pOk, nilP, ofCp, elsLf, Nat.reduceBEq, cv, cvL, wrL, isOwn, argsOb, slim1, argsS, keep, kp, cand, cor, List.map, List.append, Option.bind, ↓reduceIte, Nat.reduceEqDiff, Nat.reduceAdd, Nat.reduceMul, Nat.reduceLT, Nat.reduceLeDiff, reduceCtorEq, Int.reduceLT, Int.reduceLE, Int.reduceBEq, Int.reduceBNe, Int.reduceAdd, Int.reduceSub, Int.reduceToNat, dq, tya, neD, cmeD, stD]))
  · exact h.elim
theorem come_or (v : Vs) (e : En) : ((comeS v e).2 = 0 ∧ (comeS v e).1 = cameS v e ∧ momP e.at_ ∧ ¬ e.at_ < v.cut) ∨ ((comeS v e).2 ≠ 0 ∧ (comeS v e).1 = v) := by
  unfold comeS
  split
  · exact .inr ⟨by dsimp only; decide, rfl⟩
  · next h =>
    split
    · exact .inr ⟨by dsimp only; decide, rfl⟩
    · next h2 => exact .inl ⟨rfl, rfl, Classical.not_not.1 h, h2⟩
structure Ox where
  j : Nat
  V : Vs
  A : List En
end Go.Proofs.Ytkmgdejpdhlleaa.Dq

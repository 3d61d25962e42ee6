/- State by versions by deep values: State. -/
import Derived.Test.YtkmgdejpdhlleaaVs7
namespace Go.Proofs.Ytkmgdejpdhlleaa.Dq
set_option linter.unusedSimpArgs false
set_option linter.unusedVariables false
set_option maxRecDepth 100000
open Go.RowKit
open Vs

def staS (v : Vs) (t : Int) : List Rc × Int := if ¬ momP t then ([], 1) else if t < v.cut - 1 then ([], 12) else (upS v.kept v.log t, 0)
def stD : List S1 → CR × Prop
  | [.agg v, .c (.int .i64 t)] => (.tup [.c (.sl (encL rcC (staS (vsC.dec v) t).1)), .c (.int .i64 (staS (vsC.dec v) t).2)], vsC.enc (vsC.dec v) = v ∧ Inv (vsC.dec v) ∧ Bd (vsC.dec v))
  | _ => (.one (.c (.bool false)), False)
set_option maxHeartbeats 4000000 in
theorem st_cal (args : List S1) (h : (stD args).2) : Cal Try.prog 16 args (stD args).1 := by
  unfold stD at h ⊢
  split at h
  · next v0 t =>
    obtain ⟨hv, hi, hb⟩ := h
    obtain ⟨v, rfl⟩ : ∃ v, v0 = vsC.enc v := ⟨_, hv.symm⟩
    rw [vsC.de] at hi hb ⊢
    clear hv
    obtain ⟨R, hR⟩ : ∃ R, staS v t = R := ⟨_, rfl⟩
    rw [hR]
    unfold staS at hR
    have hks := hi.slen hb
    have hkl := hi.klen
    have hko := hi.kord
    have hlog := hb.log
    have hcu := hi.cut
    have hks2 : ∀ k ∈ v.kept, k.s.length ≤ 100000 := fun k hk => by have := hks k hk; omega
    obtain ⟨log, kept, evy, cut, ro, ag⟩ := v
    dsimp only at hR hks hkl hko hlog hcu hks2
    have hvd : vsC.dec [D.sl (encL enC log), D.sl (encL vnC kept), D.int .i64 evy, D.int .i64 cut, D.int .i64 ro, D.int .i64 ag] = ⟨log, kept, evy, cut, ro, ag⟩ := vsC.de ⟨log, kept, evy, cut, ro, ag⟩
    have l1 : log.length ≤ 10000 := by omega
    have l2 : kept.length ≤ 1073741823 := by omega
    have ewc : IntKind.wrap .i64 (cut - 1) = cut - 1 := by rw [IntKind.wrap_i64]; omega
    refine DV.of (Γ := ⟨[(15, riD), (54, moD), (65, upD)], [], []⟩) (rs := [ResultVar.tmp 4, ResultVar.tmp 5]) [0, 1, 2, 4, 5, 6, 10, 14] ⟨by intro p hp; simp only [List.mem_cons, List.not_mem_nil, or_false] at hp; rcases hp with rfl | rfl | rfl; exact ri_cal; exact mo_cal; exact up_cal, nofun⟩ (by kernel_rfl) Try.func16 rfl rfl (by kernel_rfl) rfl ?_; (repeat (with_reducible first | apply qa | apply qb | apply qc | apply qd | apply qe))
    (apply DV.seqreg; kernel_rfl; (simp only [wpS, wpT, go1, evS, ev, evCallee, evMove, evBin, evUn, evFieldAddr, evLoad, evBox, evLen, evCall, evCallF, nilB, gdS, put1, sv, gs, gb, opd, cst, outS, cellsS, okS, asSl, setAt, bad, dem, demD, demDs, demB, demC, demCs, demL, deNl, deNls, refS, refD, refDs, refB, refC, refCs, refL, isSh, isShC, anySh, lf, lfs, argsD, plainD, plains, plainR, plainRs, noMut, asP, pOk, nilP, ofCp, Nat.reduceBEq, cv, cvL, wrL, isOwn, argsOb, slim1, argsS, keep, kp, cand, cor, List.map, List.append, Option.bind, ↓reduceIte, Nat.reduceEqDiff, Nat.reduceAdd, Nat.reduceMul, Nat.reduceLT, Nat.reduceLeDiff, reduceCtorEq, Int.reduceLT, Int.reduceLE, Int.reduceBEq, Int.reduceBNe, Int.reduceAdd, Int.reduceSub, Int.reduceToNat, dq, tya, riD, moD, upD, vsE]; exact rfl); (repeat (with_reducible first | apply qa | apply qb | apply qc | apply qd | apply qe)))
    (apply DV.seqreg; kernel_rfl; (simp only [wpS, wpT, go1, evS, ev, evCallee, evMove, evBin, evUn, evFieldAddr, evLoad, evBox, evLen, evCall, evCallF, nilB, gdS, put1, sv, gs, gb, opd, cst, outS, cellsS, okS, asSl, setAt, bad, dem, demD, demDs, demB, demC, demCs, demL, deNl, deNls, refS, refD, refDs, refB, refC, refCs, refL, isSh, isShC, anySh, lf, lfs, argsD, plainD, plains, plainR, plainRs, noMut, asP, pOk, nilP, ofCp, Nat.reduceBEq, cv, cvL, wrL, isOwn, argsOb, slim1, argsS, keep, kp, cand, cor, List.map, List.append, Option.bind, ↓reduceIte, Nat.reduceEqDiff, Nat.reduceAdd, Nat.reduceMul, Nat.reduceLT, Nat.reduceLeDiff, reduceCtorEq, Int.reduceLT, Int.reduceLE, Int.reduceBEq, Int.reduceBNe, Int.reduceAdd, Int.reduceSub, Int.reduceToNat, dq, tya, riD, moD, upD, hvd, vsE, hi, hb]; exact rfl); (repeat (with_reducible first | apply qa | apply qb | apply qc | apply qd | apply qe)))
    (refine DV.condF rfl (fun _ => rfl) ?_; (repeat (with_reducible first | apply qa | apply qb | apply qc | apply qd | apply qe)))
    obtain ⟨mB, hmB⟩ : ∃ b, momB t = b := ⟨_, rfl⟩
    (apply DV.seqreg; kernel_rfl; (simp only [wpS, wpT, go1, evS, ev, evCallee, evMove, evBin, evUn, evFieldAddr, evLoad, evBox, evLen, evCall, evCallF, nilB, gdS, put1, sv, gs, gb, opd, cst, outS, cellsS, okS, asSl, setAt, bad, dem, demD, demDs, demB, demC, demCs, demL, deNl, deNls, refS, refD, refDs, refB, refC, refCs, refL, isSh, isShC, anySh, lf, lfs, argsD, plainD, plains, plainR, plainRs, noMut, asP, pOk, nilP, ofCp, Nat.reduceBEq, cv, cvL, wrL, isOwn, argsOb, slim1, argsS, keep, kp, cand, cor, List.map, List.append, Option.bind, ↓reduceIte, Nat.reduceEqDiff, Nat.reduceAdd, Nat.reduceMul, Nat.reduceLT, Nat.reduceLeDiff, reduceCtorEq, Int.reduceLT, Int.reduceLE, Int.reduceBEq, Int.reduceBNe, Int.reduceAdd, Int.reduceSub, Int.reduceToNat, dq, tya, riD, moD, upD, hmB]; exact rfl); (repeat (with_reducible first | apply qa | apply qb | apply qc | apply qd | apply qe)))
    cases mB
    · have hnm : ¬ momP t := fun ⟨h1, h2⟩ => by
        unfold momB at hmB
        rw [decide_eq_true h1, decide_eq_true h2] at hmB
        cases hmB
      rw [if_pos hnm] at hR
      subst hR
      (refine DV.condT rfl (fun _ => rfl) ?_; (repeat (with_reducible first | apply qa | apply qb | apply qc | apply qd | apply qe)))
      (apply DV.seqreg; kernel_rfl; (simp only [wpS, wpT, go1, evS, ev, evCallee, evMove, evBin, evUn, evFieldAddr, evLoad, evBox, evLen, evCall, evCallF, nilB, gdS, put1, sv, gs, gb, opd, cst, outS, cellsS, okS, asSl, setAt, bad, dem, demD, demDs, demB, demC, demCs, demL, deNl, deNls, refS, refD, refDs, refB, refC, refCs, refL, isSh, isShC, anySh, lf, lfs, argsD, plainD, plains, plainR, plainRs, noMut, asP, pOk, nilP, ofCp, Nat.reduceBEq, cv, cvL, wrL, isOwn, argsOb, slim1, argsS, keep, kp, cand, cor, List.map, List.append, Option.bind, ↓reduceIte, Nat.reduceEqDiff, Nat.reduceAdd, Nat.reduceMul, Nat.reduceLT, Nat.reduceLeDiff, reduceCtorEq, Int.reduceLT, Int.reduceLE, Int.reduceBEq, Int.reduceBNe, Int.reduceAdd, Int.reduceSub, Int.reduceToNat, dq, tya, riD, moD, upD]; exact rfl); (repeat (with_reducible first | apply qa | apply qb | apply qc | apply qd | apply qe)))
      (refine DV.ret ?_; (repeat (first | (with_reducible refine thenD_ret' ?_) | (with_reducible refine blockD_ret' ?_))); (with_reducible refine retD_ret' ?_); (try simp only [resOk, resL, rvS, toR, noMu, wpS, wpT, go1, evS, ev, evCallee, evMove, evBin, evUn, evFieldAddr, evLoad, evBox, evLen, evCall, evCallF, nilB, gdS, put1, sv, gs, gb, opd, cst, outS, cellsS, okS, asSl, setAt, bad, dem, demD, demDs, demB, demC, demCs, demL, deNl, deNls, refS, refD, refDs, refB, refC, refCs, refL, isSh, isShC, anySh, lf, lfs, argsD, plainD, plains, plainR, plainRs, noMut, asP, pOk, nilP, ofCp, Nat.reduceBEq, cv, cvL, wrL, isOwn, argsOb, slim1, argsS, keep, kp, cand, cor, List.map, List.append, Option.bind, ↓reduceIte, Nat.reduceEqDiff, Nat.reduceAdd, Nat.reduceMul, Nat.reduceLT, Nat.reduceLeDiff, reduceCtorEq, Int.reduceLT, Int.reduceLE, Int.reduceBEq, Int.reduceBNe, Int.reduceAdd, Int.reduceSub, Int.reduceToNat, dq, tya, riD, moD, upD, encL_nil]))
      try decide
    have hmP : momP t := by
      unfold momB at hmB
      simp only [Bool.and_eq_true, decide_eq_true_eq] at hmB
      exact hmB
    rw [if_neg (fun h => h hmP)] at hR
    (refine DV.condF rfl (fun _ => rfl) ?_; (repeat (with_reducible first | apply qa | apply qb | apply qc | apply qd | apply qe)))
    (apply DV.seqreg; kernel_rfl; (simp only [wpS, wpT, go1, evS, ev, evCallee, evMove, evBin, evUn, evFieldAddr, evLoad, evBox, evLen, evCall, evCallF, nilB, gdS, put1, sv, gs, gb, opd, cst, outS, cellsS, okS, asSl, setAt, bad, dem, demD, demDs, demB, demC, demCs, demL, deNl, deNls, refS, refD, refDs, refB, refC, refCs, refL, isSh, isShC, anySh, lf, lfs, argsD, plainD, plains, plainR, plainRs, noMut, asP, pOk, nilP, ofCp, Nat.reduceBEq, cv, cvL, wrL, isOwn, argsOb, slim1, argsS, keep, kp, cand, cor, List.map, List.append, Option.bind, ↓reduceIte, Nat.reduceEqDiff, Nat.reduceAdd, Nat.reduceMul, Nat.reduceLT, Nat.reduceLeDiff, reduceCtorEq, Int.reduceLT, Int.reduceLE, Int.reduceBEq, Int.reduceBNe, Int.reduceAdd, Int.reduceSub, Int.reduceToNat, dq, tya, riD, moD, upD, ewc]; exact rfl); (repeat (with_reducible first | apply qa | apply qb | apply qc | apply qd | apply qe)))
    by_cases hec : t < cut - 1
    · have d1 := decide_eq_true hec
      rw [if_pos hec] at hR
      subst hR
      simp only [d1]
      (refine DV.condT rfl (fun _ => rfl) ?_; (repeat (with_reducible first | apply qa | apply qb | apply qc | apply qd | apply qe)))
      (apply DV.seqreg; kernel_rfl; (simp only [wpS, wpT, go1, evS, ev, evCallee, evMove, evBin, evUn, evFieldAddr, evLoad, evBox, evLen, evCall, evCallF, nilB, gdS, put1, sv, gs, gb, opd, cst, outS, cellsS, okS, asSl, setAt, bad, dem, demD, demDs, demB, demC, demCs, demL, deNl, deNls, refS, refD, refDs, refB, refC, refCs, refL, isSh, isShC, anySh, lf, lfs, argsD, plainD, plains, plainR, plainRs, noMut, asP, pOk, nilP, ofCp, Nat.reduceBEq, cv, cvL, wrL, isOwn, argsOb, slim1, argsS, keep, kp, cand, cor, List.map, List.append, Option.bind, ↓reduceIte, Nat.reduceEqDiff, Nat.reduceAdd, Nat.reduceMul, Nat.reduceLT, Nat.reduceLeDiff, reduceCtorEq, Int.reduceLT, Int.reduceLE, Int.reduceBEq, Int.reduceBNe, Int.reduceAdd, Int.reduceSub, Int.reduceToNat, dq, tya, riD, moD, upD]; exact rfl); (repeat (with_reducible first | apply qa | apply qb | apply qc | apply qd | apply qe)))
      (refine DV.ret ?_; (repeat (first | (with_reducible refine thenD_ret' ?_) | (with_reducible refine blockD_ret' ?_))); (with_reducible refine retD_ret' ?_); (try simp only [resOk, resL, rvS, toR, noMu, wpS, wpT, go1, evS, ev, evCallee, evMove, evBin, evUn, evFieldAddr, evLoad, evBox, evLen, evCall, evCallF, nilB, gdS, put1, sv, gs, gb, opd, cst, outS, cellsS, okS, asSl, setAt, bad, dem, demD, demDs, demB, demC, demCs, demL, deNl, deNls, refS, refD, refDs, refB, refC, refCs, refL, isSh, isShC, anySh, lf, lfs, argsD, plainD, plains, plainR, plainRs, noMut, asP, pOk, nilP, ofCp, Nat.reduceBEq, cv, cvL, wrL, isOwn, argsOb, slim1, argsS, keep, kp, cand, cor, List.map, List.append, Option.bind, ↓reduceIte, Nat.reduceEqDiff, Nat.reduceAdd, Nat.reduceMul, Nat.reduceLT, Nat.reduceLeDiff, reduceCtorEq, Int.reduceLT, Int.reduceLE, Int.reduceBEq, Int.reduceBNe, Int.reduceAdd, Int.reduceSub, Int.reduceToNat, dq, tya, riD, moD, upD, encL_nil]))
      try decide
    have d1 := decide_eq_false hec
    rw [if_neg hec] at hR
    subst hR
    simp only [d1]
    (refine DV.condF rfl (fun _ => rfl) ?_; (repeat (with_reducible first | apply qa | apply qb | apply qc | apply qd | apply qe)))
    (refine DV.skip ?_; (repeat (with_reducible refine blockD_norm' ?_)); (with_reducible refine thenD_norm' ?_); (repeat (with_reducible first | apply qa | apply qb | apply qc | apply qd | apply qe)))
    (apply DV.seqreg; kernel_rfl; (simp only [wpS, wpT, go1, evS, ev, evCallee, evMove, evBin, evUn, evFieldAddr, evLoad, evBox, evLen, evCall, evCallF, nilB, gdS, put1, sv, gs, gb, opd, cst, outS, cellsS, okS, asSl, setAt, bad, dem, demD, demDs, demB, demC, demCs, demL, deNl, deNls, refS, refD, refDs, refB, refC, refCs, refL, isSh, isShC, anySh, lf, lfs, argsD, plainD, plains, plainR, plainRs, noMut, asP, pOk, nilP, ofCp, Nat.reduceBEq, cv, cvL, wrL, isOwn, argsOb, slim1, argsS, keep, kp, cand, cor, List.map, List.append, Option.bind, ↓reduceIte, Nat.reduceEqDiff, Nat.reduceAdd, Nat.reduceMul, Nat.reduceLT, Nat.reduceLeDiff, reduceCtorEq, Int.reduceLT, Int.reduceLE, Int.reduceBEq, Int.reduceBNe, Int.reduceAdd, Int.reduceSub, Int.reduceToNat, dq, tya, riD, moD, upD, hvd, vsE, l1, l2]; exact ⟨⟨hko, hks2⟩, rfl⟩); (repeat (with_reducible first | apply qa | apply qb | apply qc | apply qd | apply qe)))
    (refine DV.ret ?_; (repeat (first | (with_reducible refine thenD_ret' ?_) | (with_reducible refine blockD_ret' ?_))); (with_reducible refine retD_ret' ?_); (try simp only [resOk, resL, rvS, toR, noMu, wpS, wpT, go1, evS, ev, evCallee, evMove, evBin, evUn, evFieldAddr, evLoad, evBox, evLen, evCall, evCallF, nilB, gdS, put1, sv, gs, gb, opd, cst, outS, cellsS, okS, asSl, setAt, bad, dem, demD, demDs, demB, demC, demCs, demL, deNl, deNls, refS, refD, refDs, refB, refC, refCs, refL, isSh, isShC, anySh, lf, lfs, argsD, plainD, plains, plainR, plainRs, noMut, asP, pOk, nilP, ofCp, Nat.reduceBEq, cv, cvL, wrL, isOwn, argsOb, slim1, argsS, keep, kp, cand, cor, List.map, List.append, Option.bind, ↓reduceIte, Nat.reduceEqDiff, Nat.reduceAdd, Nat.reduceMul, Nat.reduceLT, Nat.reduceLeDiff, reduceCtorEq, Int.reduceLT, Int.reduceLE, Int.reduceBEq, Int.reduceBNe, Int.reduceAdd, Int.reduceSub, Int.reduceToNat, dq, tya, riD, moD, upD]))
    try decide
  · exact h.elim
end Go.Proofs.Ytkmgdejpdhlleaa.Dq

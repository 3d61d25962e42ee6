/- Graphs put together step by step, by deep values: Graph and Pile. -/
import Derived.Test.YtkmgdejpdhlleaaBu5
namespace Go.Proofs.Ytkmgdejpdhlleaa.Dq
set_option linter.unusedSimpArgs false
set_option linter.unusedVariables false
set_option maxRecDepth 100000
open Go.RowKit
open Va

structure SpOk (l : List Sp) : Prop where
  len : l.length ≤ 1000
  pr : ∀ s ∈ l, s.pr.length ≤ 1000000
def graD : List S1 → CR × Prop
  | [.c (.sl l)] => (.tup [.agg (grC.enc (graS (decL spC l)).1), .c (.int .i64 (graS (decL spC l)).2.1), .c (.int .i64 (graS (decL spC l)).2.2)], isL spC l ∧ SpOk (decL spC l))
  | _ => (.one (.c (.bool false)), False)
def pilD : List S1 → CR × Prop
  | [.c (.sl l)] => (.one (.c (.int .i64 (pilS (decL spC l)))), isL spC l ∧ SpOk (decL spC l))
  | _ => (.one (.c (.bool false)), False)
set_option maxHeartbeats 16000000 in
theorem gra_cal (args : List S1) (h : (graD args).2) : Cal Try.prog 23 args (graD args).1 := by
  unfold graD at h ⊢
  split at h
  · next l0 =>
    obtain ⟨hl, ho⟩ := h
    obtain ⟨l, rfl⟩ : ∃ z, l0 = encL spC z := ⟨_, hl.symm⟩
    rw [decL_encL] at ho ⊢
    clear hl
    obtain ⟨hlen, hpr⟩ := ho
    obtain ⟨hok1, hft1⟩ := all_ok l 0 fre0 1 Ok.zero Fit.zero
    have hal : AlOk ⟨[-1], [0], [], [], [], 0, [], 0⟩ l := ⟨Ok.zero, Fit.zero.le (by decide), hlen, hpr⟩
    obtain ⟨R, hR⟩ : ∃ y, allS l 0 ⟨[-1], [0], [], [], [], 0, [], 0⟩ = y := ⟨_, rfl⟩
    have hR0 : allS l 0 fre0 = R := hR
    rw [hR0] at hok1 hft1
    obtain ⟨v1, e, at_⟩ := R
    dsimp only at hok1 hft1
    have hd1 : decL inC [[D.int .i64 (-1)]] = [-1] := rfl
    have hd2 : decL inC [[D.int .i64 0]] = [0] := rfl
    have hd3 : decL ndC [] = [] := rfl
    have hd4 : decL egC [] = [] := rfl
    have hd5 : decL inC [] = [] := rfl
    have hd6 : decL lpC [] = [] := rfl
    have he1 : encL inC [-1] = [[D.int .i64 (-1)]] := rfl
    have he2 : encL inC [0] = [[D.int .i64 0]] := rfl
    obtain ⟨G, hG⟩ : ∃ y, graS l = y := ⟨_, rfl⟩
    rw [hG]
    unfold graS at hG
    rw [hR0] at hG
    obtain ⟨G, ge, ga⟩ := G
    dsimp only at hG ⊢
    obtain ⟨b1, hb1⟩ : ∃ b, (e != 0) = b := ⟨_, rfl⟩
    obtain ⟨b2, hb2⟩ : ∃ b, decide (0 < (v1.r : Int)) = b := ⟨_, rfl⟩
    obtain ⟨ce, hce⟩ : ∃ c, chkS (grB v1) = c := ⟨_, rfl⟩
    obtain ⟨ce, cn⟩ := ce
    obtain ⟨b3, hb3⟩ : ∃ b, (ce != 0) = b := ⟨_, rfl⟩
    rw [hb1, hb2, hce] at hG
    dsimp only at hG
    rw [hb3] at hG
    have hgd : grC.dec [D.sl (encL inC v1.p), D.sl (encL inC v1.b), D.sl (encL ndC v1.n), D.sl (encL egC v1.e)] = grB v1 := grC.de (grB v1)
    have hge : grC.enc (grB v1) = [D.sl (encL inC v1.p), D.sl (encL inC v1.b), D.sl (encL ndC v1.n), D.sl (encL egC v1.e)] := rfl
    have hg0 : grC.enc gr0 = [D.sl [], D.sl [], D.sl [], D.sl []] := rfl
    have hc1 : (chkS (grB v1)).1 = ce := by rw [hce]
    have hc2 : (chkS (grB v1)).2 = cn := by rw [hce]
    have hsm : Sm (grB v1) := ⟨by have := hft1.n.p; show v1.p.length ≤ _; omega, by have := hft1.n.b; show v1.b.length ≤ _; omega, by have := hft1.n.n; show v1.n.length ≤ _; omega, by have := hft1.n.e; show v1.e.length ≤ _; omega⟩
    refine DV.of (Γ := ⟨[(24, chkD)], [(71, locF freL), (72, locP [4000, 5000, 5001, 5002, 5003, 5004, 5005] allL)], []⟩) (rs := [ResultVar.cell 2 51, ResultVar.tmp 3, ResultVar.tmp 4]) [0, 2, 3, 4, 5, 6, 7, 8, 18, 27, 40] ⟨by intro p hp; simp only [List.mem_singleton] at hp; subst hp; exact chk_cal, by intro p hp args bx d h; simp only [List.mem_cons, List.not_mem_nil, or_false] at hp; rcases hp with rfl | rfl; exact calM_loc fre_g h; exact calM_pr all_g h⟩ (by kernel_rfl) Try.func23 rfl rfl (by kernel_rfl) rfl ?_; (repeat (with_reducible first | apply qa | apply qb | apply qc | apply qd | apply qe))
    (apply DV.seqreg; kernel_rfl; (simp only [wpS, wpT, go1, evS, ev, Qc, Qd, Qg, Qk, Qr, Qs, Qt, Qv, Qw, QB, QE, QF, QJ, nilB, gdS, put1, sv, gs, gb, opd, cst, XW, QK, okS, QL, setAt, QO, bad, dem, QP, QR, QS, QT, QU, QV, QW, QY, stC, QZ, Q2, Q3, Q4, Q5, Q6, Q7, Q8, Q9, Xc, lf, lfs, Xd, Xe, Xg, Xh, Xj, Xk, asP, pOk, Xp, Xr, Xt, Nat.reduceBEq, cv, cvL, wrL, Xw, Xy, XA, XB, keep, kp, cand, cor, List.map, List.append, Option.bind, ↓reduceIte, Nat.reduceEqDiff, Nat.reduceAdd, Nat.reduceMul, Nat.reduceLT, Nat.reduceLeDiff, reduceCtorEq, Int.reduceLT, Int.reduceLE, Int.reduceBEq, Int.reduceBNe, Int.reduceAdd, Int.reduceSub, Int.reduceToNat, dq, tya, chkD, freL, allL]; exact rfl); (repeat (with_reducible first | apply qa | apply qb | apply qc | apply qd | apply qe)))
    (apply DV.seqreg; kernel_rfl; (simp only [wpS, wpT, go1, evS, ev, Qc, Qd, Qg, Qk, Qr, Qs, Qt, Qv, Qw, QB, QE, QF, QJ, nilB, gdS, put1, sv, gs, gb, opd, cst, XW, QK, okS, QL, setAt, QO, bad, dem, QP, QR, QS, QT, QU, QV, QW, QY, stC, QZ, Q2, Q3, Q4, Q5, Q6, Q7, Q8, Q9, Xc, lf, lfs, Xd, Xe, Xg, Xh, Xj, Xk, asP, pOk, Xp, Xr, Xt, Nat.reduceBEq, cv, cvL, wrL, Xw, Xy, XA, XB, keep, kp, cand, cor, List.map, List.append, Option.bind, ↓reduceIte, Nat.reduceEqDiff, Nat.reduceAdd, Nat.reduceMul, Nat.reduceLT, Nat.reduceLeDiff, reduceCtorEq, Int.reduceLT, Int.reduceLE, Int.reduceBEq, Int.reduceBNe, Int.reduceAdd, Int.reduceSub, Int.reduceToNat, dq, tya, chkD, freL, allL, false_and, and_false, and_self, locF, locP, locW, locN, refA, refO, backOk, renV, renSs, renS, renDs, renD, renK, rkK, renCs, renC, renL_nil, renL_cons, renL_app, renL_encL, renL_set, renDs_enc, rkV, rkSs, rkS, rkDs, rkD, rkCs, rkC, rkL_nil, rkL_cons, rkL_app, rkL_encL, rkL_set, rkDs_enc, refTs, refT, refPs, locs, swp, bsOf, insOk, bijOk, outsOf, freshOk, wbOut, rkB, deadB, freL, fre0B]; exact rfl); (repeat (with_reducible first | apply qa | apply qb | apply qc | apply qd | apply qe)))
    (apply DV.seqreg; kernel_rfl; (simp only [wpS, wpT, go1, evS, ev, Qc, Qd, Qg, Qk, Qr, Qs, Qt, Qv, Qw, QB, QE, QF, QJ, nilB, gdS, put1, sv, gs, gb, opd, cst, XW, QK, okS, QL, setAt, QO, bad, dem, QP, QR, QS, QT, QU, QV, QW, QY, stC, QZ, Q2, Q3, Q4, Q5, Q6, Q7, Q8, Q9, Xc, lf, lfs, Xd, Xe, Xg, Xh, Xj, Xk, asP, pOk, Xp, Xr, Xt, Nat.reduceBEq, cv, cvL, wrL, Xw, Xy, XA, XB, keep, kp, cand, cor, List.map, List.append, Option.bind, ↓reduceIte, Nat.reduceEqDiff, Nat.reduceAdd, Nat.reduceMul, Nat.reduceLT, Nat.reduceLeDiff, reduceCtorEq, Int.reduceLT, Int.reduceLE, Int.reduceBEq, Int.reduceBNe, Int.reduceAdd, Int.reduceSub, Int.reduceToNat, dq, tya, chkD, freL, allL, false_and, and_false, and_self, locF, locP, locW, locN, refA, refO, backOk, renV, renSs, renS, renDs, renD, renK, rkK, renCs, renC, renL_nil, renL_cons, renL_app, renL_encL, renL_set, renDs_enc, rkV, rkSs, rkS, rkDs, rkD, rkCs, rkC, rkL_nil, rkL_cons, rkL_app, rkL_encL, rkL_set, rkDs_enc, refTs, refT, refPs, locs, swp, bsOf, insOk, bijOk, outsOf, freshOk, wbOut, rkB, deadB, deB, enB, decL_encL, isL_enc, encL_len, freL, fre0B, allL, hal, hR, hd1, hd2, hd3, hd4, hd5, hd6, he1, he2, encL_nil]; exact rfl); (repeat (with_reducible first | apply qa | apply qb | apply qc | apply qd | apply qe)))
    (apply DV.seqreg; kernel_rfl; (simp only [wpS, wpT, go1, evS, ev, Qc, Qd, Qg, Qk, Qr, Qs, Qt, Qv, Qw, QB, QE, QF, QJ, nilB, gdS, put1, sv, gs, gb, opd, cst, XW, QK, okS, QL, setAt, QO, bad, dem, QP, QR, QS, QT, QU, QV, QW, QY, stC, QZ, Q2, Q3, Q4, Q5, Q6, Q7, Q8, Q9, Xc, lf, lfs, Xd, Xe, Xg, Xh, Xj, Xk, asP, pOk, Xp, Xr, Xt, Nat.reduceBEq, cv, cvL, wrL, Xw, Xy, XA, XB, keep, kp, cand, cor, List.map, List.append, Option.bind, ↓reduceIte, Nat.reduceEqDiff, Nat.reduceAdd, Nat.reduceMul, Nat.reduceLT, Nat.reduceLeDiff, reduceCtorEq, Int.reduceLT, Int.reduceLE, Int.reduceBEq, Int.reduceBNe, Int.reduceAdd, Int.reduceSub, Int.reduceToNat, dq, tya, chkD, freL, allL, hb1]; exact rfl); (repeat (with_reducible first | apply qa | apply qb | apply qc | apply qd | apply qe)))
    cases b1
    rotate_left 1
    · rw [if_pos rfl] at hG
      obtain ⟨rfl, hG2⟩ := Prod.mk.inj hG
      obtain ⟨rfl, rfl⟩ := Prod.mk.inj hG2
      (refine DV.condT rfl (fun _ => rfl) ?_; (repeat (with_reducible first | apply qa | apply qb | apply qc | apply qd | apply qe)))
      (apply DV.seqreg; kernel_rfl; (simp only [wpS, wpT, go1, evS, ev, Qc, Qd, Qg, Qk, Qr, Qs, Qt, Qv, Qw, QB, QE, QF, QJ, nilB, gdS, put1, sv, gs, gb, opd, cst, XW, QK, okS, QL, setAt, QO, bad, dem, QP, QR, QS, QT, QU, QV, QW, QY, stC, QZ, Q2, Q3, Q4, Q5, Q6, Q7, Q8, Q9, Xc, lf, lfs, Xd, Xe, Xg, Xh, Xj, Xk, asP, pOk, Xp, Xr, Xt, Nat.reduceBEq, cv, cvL, wrL, Xw, Xy, XA, XB, keep, kp, cand, cor, List.map, List.append, Option.bind, ↓reduceIte, Nat.reduceEqDiff, Nat.reduceAdd, Nat.reduceMul, Nat.reduceLT, Nat.reduceLeDiff, reduceCtorEq, Int.reduceLT, Int.reduceLE, Int.reduceBEq, Int.reduceBNe, Int.reduceAdd, Int.reduceSub, Int.reduceToNat, dq, tya, chkD, freL, allL]; exact rfl); (repeat (with_reducible first | apply qa | apply qb | apply qc | apply qd | apply qe)))
      (refine DV.ret ?_; (repeat (first | (with_reducible refine thenD_ret' ?_) | (with_reducible refine blockD_ret' ?_))); (with_reducible refine retD_ret' ?_); (try simp only [resOk, resL, rvS, toR, noMu, wpS, wpT, go1, evS, ev, Qc, Qd, Qg, Qk, Qr, Qs, Qt, Qv, Qw, QB, QE, QF, QJ, nilB, gdS, put1, sv, gs, gb, opd, cst, XW, QK, okS, QL, setAt, QO, bad, dem, QP, QR, QS, QT, QU, QV, QW, QY, stC, QZ, Q2, Q3, Q4, Q5, Q6, Q7, Q8, Q9, Xc, lf, lfs, Xd, Xe, Xg, Xh, Xj, Xk, asP, pOk, Xp, Xr, Xt, Nat.reduceBEq, cv, cvL, wrL, Xw, Xy, XA, XB, keep, kp, cand, cor, List.map, List.append, Option.bind, ↓reduceIte, Nat.reduceEqDiff, Nat.reduceAdd, Nat.reduceMul, Nat.reduceLT, Nat.reduceLeDiff, reduceCtorEq, Int.reduceLT, Int.reduceLE, Int.reduceBEq, Int.reduceBNe, Int.reduceAdd, Int.reduceSub, Int.reduceToNat, dq, tya, chkD, freL, allL, hg0]))
      try decide
    rw [if_neg (by decide)] at hG
    (refine DV.condF rfl (fun _ => rfl) ?_; (repeat (with_reducible first | apply qa | apply qb | apply qc | apply qd | apply qe)))
    (refine DV.skip ?_; (repeat (with_reducible refine blockD_norm' ?_)); (with_reducible refine thenD_norm' ?_); (repeat (with_reducible first | apply qa | apply qb | apply qc | apply qd | apply qe)))
    (apply DV.seqreg; kernel_rfl; (simp only [wpS, wpT, go1, evS, ev, Qc, Qd, Qg, Qk, Qr, Qs, Qt, Qv, Qw, QB, QE, QF, QJ, nilB, gdS, put1, sv, gs, gb, opd, cst, XW, QK, okS, QL, setAt, QO, bad, dem, QP, QR, QS, QT, QU, QV, QW, QY, stC, QZ, Q2, Q3, Q4, Q5, Q6, Q7, Q8, Q9, Xc, lf, lfs, Xd, Xe, Xg, Xh, Xj, Xk, asP, pOk, Xp, Xr, Xt, Nat.reduceBEq, cv, cvL, wrL, Xw, Xy, XA, XB, keep, kp, cand, cor, List.map, List.append, Option.bind, ↓reduceIte, Nat.reduceEqDiff, Nat.reduceAdd, Nat.reduceMul, Nat.reduceLT, Nat.reduceLeDiff, reduceCtorEq, Int.reduceLT, Int.reduceLE, Int.reduceBEq, Int.reduceBNe, Int.reduceAdd, Int.reduceSub, Int.reduceToNat, dq, tya, chkD, freL, allL, hb2]; exact rfl); (repeat (with_reducible first | apply qa | apply qb | apply qc | apply qd | apply qe)))
    cases b2
    rotate_left 1
    · rw [if_pos rfl] at hG
      obtain ⟨rfl, hG2⟩ := Prod.mk.inj hG
      obtain ⟨rfl, rfl⟩ := Prod.mk.inj hG2
      (refine DV.condT rfl (fun _ => rfl) ?_; (repeat (with_reducible first | apply qa | apply qb | apply qc | apply qd | apply qe)))
      (apply DV.seqreg; kernel_rfl; (simp only [wpS, wpT, go1, evS, ev, Qc, Qd, Qg, Qk, Qr, Qs, Qt, Qv, Qw, QB, QE, QF, QJ, nilB, gdS, put1, sv, gs, gb, opd, cst, XW, QK, okS, QL, setAt, QO, bad, dem, QP, QR, QS, QT, QU, QV, QW, QY, stC, QZ, Q2, Q3, Q4, Q5, Q6, Q7, Q8, Q9, Xc, lf, lfs, Xd, Xe, Xg, Xh, Xj, Xk, asP, pOk, Xp, Xr, Xt, Nat.reduceBEq, cv, cvL, wrL, Xw, Xy, XA, XB, keep, kp, cand, cor, List.map, List.append, Option.bind, ↓reduceIte, Nat.reduceEqDiff, Nat.reduceAdd, Nat.reduceMul, Nat.reduceLT, Nat.reduceLeDiff, reduceCtorEq, Int.reduceLT, Int.reduceLE, Int.reduceBEq, Int.reduceBNe, Int.reduceAdd, Int.reduceSub, Int.reduceToNat, dq, tya, chkD, freL, allL, encL_len]; exact rfl); (repeat (with_reducible first | apply qa | apply qb | apply qc | apply qd | apply qe)))
      (refine DV.ret ?_; (repeat (first | (with_reducible refine thenD_ret' ?_) | (with_reducible refine blockD_ret' ?_))); (with_reducible refine retD_ret' ?_); (try simp only [resOk, resL, rvS, toR, noMu, wpS, wpT, go1, evS, ev, Qc, Qd, Qg, Qk, Qr, Qs, Qt, Qv, Qw, QB, QE, QF, QJ, nilB, gdS, put1, sv, gs, gb, opd, cst, XW, QK, okS, QL, setAt, QO, bad, dem, QP, QR, QS, QT, QU, QV, QW, QY, stC, QZ, Q2, Q3, Q4, Q5, Q6, Q7, Q8, Q9, Xc, lf, lfs, Xd, Xe, Xg, Xh, Xj, Xk, asP, pOk, Xp, Xr, Xt, Nat.reduceBEq, cv, cvL, wrL, Xw, Xy, XA, XB, keep, kp, cand, cor, List.map, List.append, Option.bind, ↓reduceIte, Nat.reduceEqDiff, Nat.reduceAdd, Nat.reduceMul, Nat.reduceLT, Nat.reduceLeDiff, reduceCtorEq, Int.reduceLT, Int.reduceLE, Int.reduceBEq, Int.reduceBNe, Int.reduceAdd, Int.reduceSub, Int.reduceToNat, dq, tya, chkD, freL, allL, hg0]))
      try decide
    rw [if_neg (by decide)] at hG
    (refine DV.condF rfl (fun _ => rfl) ?_; (repeat (with_reducible first | apply qa | apply qb | apply qc | apply qd | apply qe)))
    (refine DV.skip ?_; (repeat (with_reducible refine blockD_norm' ?_)); (with_reducible refine thenD_norm' ?_); (repeat (with_reducible first | apply qa | apply qb | apply qc | apply qd | apply qe)))
    (apply DV.seqreg; kernel_rfl; (simp only [wpS, wpT, go1, evS, ev, Qc, Qd, Qg, Qk, Qr, Qs, Qt, Qv, Qw, QB, QE, QF, QJ, nilB, gdS, put1, sv, gs, gb, opd, cst, XW, QK, okS, QL, setAt, QO, bad, dem, QP, QR, QS, QT, QU, QV, QW, QY, stC, QZ, Q2, Q3, Q4, Q5, Q6, Q7, Q8, Q9, Xc, lf, lfs, Xd, Xe, Xg, Xh, Xj, Xk, asP, pOk, Xp, Xr, Xt, Nat.reduceBEq, cv, cvL, wrL, Xw, Xy, XA, XB, keep, kp, cand, cor, List.map, List.append, Option.bind, ↓reduceIte, Nat.reduceEqDiff, Nat.reduceAdd, Nat.reduceMul, Nat.reduceLT, Nat.reduceLeDiff, reduceCtorEq, Int.reduceLT, Int.reduceLE, Int.reduceBEq, Int.reduceBNe, Int.reduceAdd, Int.reduceSub, Int.reduceToNat, dq, tya, chkD, freL, allL, encL_take, encL_len, List.take_length, lfL_encL, Nat.le_refl, hgd, hge, hsm, hc1, hc2]; exact rfl); (repeat (with_reducible first | apply qa | apply qb | apply qc | apply qd | apply qe)))
    (apply DV.seqreg; kernel_rfl; (simp only [wpS, wpT, go1, evS, ev, Qc, Qd, Qg, Qk, Qr, Qs, Qt, Qv, Qw, QB, QE, QF, QJ, nilB, gdS, put1, sv, gs, gb, opd, cst, XW, QK, okS, QL, setAt, QO, bad, dem, QP, QR, QS, QT, QU, QV, QW, QY, stC, QZ, Q2, Q3, Q4, Q5, Q6, Q7, Q8, Q9, Xc, lf, lfs, Xd, Xe, Xg, Xh, Xj, Xk, asP, pOk, Xp, Xr, Xt, Nat.reduceBEq, cv, cvL, wrL, Xw, Xy, XA, XB, keep, kp, cand, cor, List.map, List.append, Option.bind, ↓reduceIte, Nat.reduceEqDiff, Nat.reduceAdd, Nat.reduceMul, Nat.reduceLT, Nat.reduceLeDiff, reduceCtorEq, Int.reduceLT, Int.reduceLE, Int.reduceBEq, Int.reduceBNe, Int.reduceAdd, Int.reduceSub, Int.reduceToNat, dq, tya, chkD, freL, allL, hb3]; exact rfl); (repeat (with_reducible first | apply qa | apply qb | apply qc | apply qd | apply qe)))
    cases b3
    rotate_left 1
    · rw [if_pos rfl] at hG
      obtain ⟨rfl, hG2⟩ := Prod.mk.inj hG
      obtain ⟨rfl, rfl⟩ := Prod.mk.inj hG2
      (refine DV.condT rfl (fun _ => rfl) ?_; (repeat (with_reducible first | apply qa | apply qb | apply qc | apply qd | apply qe)))
      (apply DV.seqreg; kernel_rfl; (simp only [wpS, wpT, go1, evS, ev, Qc, Qd, Qg, Qk, Qr, Qs, Qt, Qv, Qw, QB, QE, QF, QJ, nilB, gdS, put1, sv, gs, gb, opd, cst, XW, QK, okS, QL, setAt, QO, bad, dem, QP, QR, QS, QT, QU, QV, QW, QY, stC, QZ, Q2, Q3, Q4, Q5, Q6, Q7, Q8, Q9, Xc, lf, lfs, Xd, Xe, Xg, Xh, Xj, Xk, asP, pOk, Xp, Xr, Xt, Nat.reduceBEq, cv, cvL, wrL, Xw, Xy, XA, XB, keep, kp, cand, cor, List.map, List.append, Option.bind, ↓reduceIte, Nat.reduceEqDiff, Nat.reduceAdd, Nat.reduceMul, Nat.reduceLT, Nat.reduceLeDiff, reduceCtorEq, Int.reduceLT, Int.reduceLE, Int.reduceBEq, Int.reduceBNe, Int.reduceAdd, Int.reduceSub, Int.reduceToNat, dq, tya, chkD, freL, allL, encL_len]; exact rfl); (repeat (with_reducible first | apply qa | apply qb | apply qc | apply qd | apply qe)))
      (refine DV.ret ?_; (repeat (first | (with_reducible refine thenD_ret' ?_) | (with_reducible refine blockD_ret' ?_))); (with_reducible refine retD_ret' ?_); (try simp only [resOk, resL, rvS, toR, noMu, wpS, wpT, go1, evS, ev, Qc, Qd, Qg, Qk, Qr, Qs, Qt, Qv, Qw, QB, QE, QF, QJ, nilB, gdS, put1, sv, gs, gb, opd, cst, XW, QK, okS, QL, setAt, QO, bad, dem, QP, QR, QS, QT, QU, QV, QW, QY, stC, QZ, Q2, Q3, Q4, Q5, Q6, Q7, Q8, Q9, Xc, lf, lfs, Xd, Xe, Xg, Xh, Xj, Xk, asP, pOk, Xp, Xr, Xt, Nat.reduceBEq, cv, cvL, wrL, Xw, Xy, XA, XB, keep, kp, cand, cor, List.map, List.append, Option.bind, ↓reduceIte, Nat.reduceEqDiff, Nat.reduceAdd, Nat.reduceMul, Nat.reduceLT, Nat.reduceLeDiff, reduceCtorEq, Int.reduceLT, Int.reduceLE, Int.reduceBEq, Int.reduceBNe, Int.reduceAdd, Int.reduceSub, Int.reduceToNat, dq, tya, chkD, freL, allL, hg0]))
      try decide
    rw [if_neg (by decide)] at hG
    obtain ⟨rfl, hG2⟩ := Prod.mk.inj hG
    obtain ⟨rfl, rfl⟩ := Prod.mk.inj hG2
    (refine DV.condF rfl (fun _ => rfl) ?_; (repeat (with_reducible first | apply qa | apply qb | apply qc | apply qd | apply qe)))
    (refine DV.skip ?_; (repeat (with_reducible refine blockD_norm' ?_)); (with_reducible refine thenD_norm' ?_); (repeat (with_reducible first | apply qa | apply qb | apply qc | apply qd | apply qe)))
    (apply DV.seqreg; kernel_rfl; (simp only [wpS, wpT, go1, evS, ev, Qc, Qd, Qg, Qk, Qr, Qs, Qt, Qv, Qw, QB, QE, QF, QJ, nilB, gdS, put1, sv, gs, gb, opd, cst, XW, QK, okS, QL, setAt, QO, bad, dem, QP, QR, QS, QT, QU, QV, QW, QY, stC, QZ, Q2, Q3, Q4, Q5, Q6, Q7, Q8, Q9, Xc, lf, lfs, Xd, Xe, Xg, Xh, Xj, Xk, asP, pOk, Xp, Xr, Xt, Nat.reduceBEq, cv, cvL, wrL, Xw, Xy, XA, XB, keep, kp, cand, cor, List.map, List.append, Option.bind, ↓reduceIte, Nat.reduceEqDiff, Nat.reduceAdd, Nat.reduceMul, Nat.reduceLT, Nat.reduceLeDiff, reduceCtorEq, Int.reduceLT, Int.reduceLE, Int.reduceBEq, Int.reduceBNe, Int.reduceAdd, Int.reduceSub, Int.reduceToNat, dq, tya, chkD, freL, allL]; exact rfl); (repeat (with_reducible first | apply qa | apply qb | apply qc | apply qd | apply qe)))
    (refine DV.ret ?_; (repeat (first | (with_reducible refine thenD_ret' ?_) | (with_reducible refine blockD_ret' ?_))); (with_reducible refine retD_ret' ?_); (try simp only [resOk, resL, rvS, toR, noMu, wpS, wpT, go1, evS, ev, Qc, Qd, Qg, Qk, Qr, Qs, Qt, Qv, Qw, QB, QE, QF, QJ, nilB, gdS, put1, sv, gs, gb, opd, cst, XW, QK, okS, QL, setAt, QO, bad, dem, QP, QR, QS, QT, QU, QV, QW, QY, stC, QZ, Q2, Q3, Q4, Q5, Q6, Q7, Q8, Q9, Xc, lf, lfs, Xd, Xe, Xg, Xh, Xj, Xk, asP, pOk, Xp, Xr, Xt, Nat.reduceBEq, cv, cvL, wrL, Xw, Xy, XA, XB, keep, kp, cand, cor, List.map, List.append, Option.bind, ↓reduceIte, Nat.reduceEqDiff, Nat.reduceAdd, Nat.reduceMul, Nat.reduceLT, Nat.reduceLeDiff, reduceCtorEq, Int.reduceLT, Int.reduceLE, Int.reduceBEq, Int.reduceBNe, Int.reduceAdd, Int.reduceSub, Int.reduceToNat, dq, tya, chkD, freL, allL, hge, encL_take, encL_len, List.take_length, lfL_encL, Nat.le_refl]))
    try decide
  · exact h.elim
set_option maxHeartbeats 16000000 in
theorem pil_cal (args : List S1) (h : (pilD args).2) : Cal Try.prog 25 args (pilD args).1 := by
  unfold pilD at h ⊢
  split at h
  · next l0 =>
    obtain ⟨hl, ho⟩ := h
    obtain ⟨l, rfl⟩ : ∃ z, l0 = encL spC z := ⟨_, hl.symm⟩
    rw [decL_encL] at ho ⊢
    clear hl
    obtain ⟨hlen, hpr⟩ := ho
    obtain ⟨hok1, hft1⟩ := all_ok l 0 fre0 1 Ok.zero Fit.zero
    have hal : AlOk ⟨[-1], [0], [], [], [], 0, [], 0⟩ l := ⟨Ok.zero, Fit.zero.le (by decide), hlen, hpr⟩
    obtain ⟨R, hR⟩ : ∃ y, allS l 0 ⟨[-1], [0], [], [], [], 0, [], 0⟩ = y := ⟨_, rfl⟩
    have hR0 : allS l 0 fre0 = R := hR
    rw [hR0] at hok1 hft1
    obtain ⟨v1, e, at_⟩ := R
    dsimp only at hok1 hft1
    have hd1 : decL inC [[D.int .i64 (-1)]] = [-1] := rfl
    have hd2 : decL inC [[D.int .i64 0]] = [0] := rfl
    have hd3 : decL ndC [] = [] := rfl
    have hd4 : decL egC [] = [] := rfl
    have hd5 : decL inC [] = [] := rfl
    have hd6 : decL lpC [] = [] := rfl
    have he1 : encL inC [-1] = [[D.int .i64 (-1)]] := rfl
    have he2 : encL inC [0] = [[D.int .i64 0]] := rfl
    have hP : pilS l = higI v1 := by unfold pilS; rw [hR0]
    rw [hP]
    obtain ⟨hh, hhh⟩ : ∃ h, higI v1 = h := ⟨_, rfl⟩
    rw [hhh]
    have hpq : (v1.P.take v1.q).length = v1.q := by rw [List.length_take]; have := hft1.q; omega
    have hur := hft1.r
    have huq := hft1.q
    have k5 : (v1.L.take v1.r).length ≤ 1000000 := by rw [List.length_take]; have := hft1.n.L; omega
    have k6 : v1.q ≤ 1000000 := by have := hft1.n.q; omega
    have hvh : higI (vw v1.q (v1.L.take v1.r)) = hh := by rw [vw_hig hft1.r]; exact hhh
    have hfe : floI (vw v1.q (v1.L.take v1.r)) = floI v1 := by
      have := vw_hig (v := v1) hft1.r
      have h1 : (v1.q : Int) - floI (vw v1.q (v1.L.take v1.r)) = (v1.q : Int) - floI v1 := this
      omega
    have g0 : 0 ≤ floI v1 := hok1.flo.1.1
    have g1 : floI v1 ≤ 1000000 := by have := hok1.flo.1.2; omega
    refine DV.of (Γ := ⟨[(78, bhiD)], [(71, locF freL), (72, locP [4000, 5000, 5001, 5002, 5003, 5004, 5005] allL)], []⟩) (rs := [ResultVar.tmp 2]) [0, 2, 3] ⟨by intro p hp; simp only [List.mem_singleton] at hp; subst hp; exact bhi_cal, by intro p hp args bx d h; simp only [List.mem_cons, List.not_mem_nil, or_false] at hp; rcases hp with rfl | rfl; exact calM_loc fre_g h; exact calM_pr all_g h⟩ (by kernel_rfl) Try.func25 rfl rfl (by kernel_rfl) rfl ?_; (repeat (with_reducible first | apply qa | apply qb | apply qc | apply qd | apply qe))
    (apply DV.seqreg; kernel_rfl; (simp only [wpS, wpT, go1, evS, ev, Qc, Qd, QB, QE, QF, nilB, gdS, put1, sv, gs, gb, opd, cst, XW, QK, okS, QL, setAt, bad, dem, QP, QR, QS, QT, QU, QV, QW, QY, QZ, Q2, Q3, Q4, Q5, Q6, Q7, Q8, Q9, Xc, lf, lfs, Xd, Xe, Xg, Xh, Xj, Xk, asP, pOk, Xp, Xt, Nat.reduceBEq, cv, cvL, wrL, Xw, Xy, XA, XB, keep, kp, cand, cor, List.map, List.append, Option.bind, ↓reduceIte, Nat.reduceEqDiff, Nat.reduceAdd, Nat.reduceMul, Nat.reduceLT, Nat.reduceLeDiff, reduceCtorEq, Int.reduceLT, Int.reduceLE, Int.reduceBEq, Int.reduceBNe, Int.reduceAdd, Int.reduceSub, Int.reduceToNat, dq, tya, bhiD, freL, allL]; exact rfl); (repeat (with_reducible first | apply qa | apply qb | apply qc | apply qd | apply qe)))
    (apply DV.seqreg; kernel_rfl; (simp only [wpS, wpT, go1, evS, ev, Qc, Qd, QB, QE, QF, nilB, gdS, put1, sv, gs, gb, opd, cst, XW, QK, okS, QL, setAt, bad, dem, QP, QR, QS, QT, QU, QV, QW, QY, QZ, Q2, Q3, Q4, Q5, Q6, Q7, Q8, Q9, Xc, lf, lfs, Xd, Xe, Xg, Xh, Xj, Xk, asP, pOk, Xp, Xt, Nat.reduceBEq, cv, cvL, wrL, Xw, Xy, XA, XB, keep, kp, cand, cor, List.map, List.append, Option.bind, ↓reduceIte, Nat.reduceEqDiff, Nat.reduceAdd, Nat.reduceMul, Nat.reduceLT, Nat.reduceLeDiff, reduceCtorEq, Int.reduceLT, Int.reduceLE, Int.reduceBEq, Int.reduceBNe, Int.reduceAdd, Int.reduceSub, Int.reduceToNat, dq, tya, bhiD, freL, allL, false_and, and_false, and_self, locF, locP, locW, locN, refA, refO, backOk, renV, renSs, renS, renDs, renD, renK, rkK, renCs, renC, renL_nil, renL_cons, renL_app, renL_encL, renL_set, renDs_enc, rkV, rkSs, rkS, rkDs, rkD, rkCs, rkC, rkL_nil, rkL_cons, rkL_app, rkL_encL, rkL_set, rkDs_enc, refTs, refT, refPs, locs, swp, bsOf, insOk, bijOk, outsOf, freshOk, wbOut, rkB, deadB, freL, fre0B]; exact rfl); (repeat (with_reducible first | apply qa | apply qb | apply qc | apply qd | apply qe)))
    (apply DV.seqreg; kernel_rfl; (simp only [wpS, wpT, go1, evS, ev, Qc, Qd, QB, QE, QF, nilB, gdS, put1, sv, gs, gb, opd, cst, XW, QK, okS, QL, setAt, bad, dem, QP, QR, QS, QT, QU, QV, QW, QY, QZ, Q2, Q3, Q4, Q5, Q6, Q7, Q8, Q9, Xc, lf, lfs, Xd, Xe, Xg, Xh, Xj, Xk, asP, pOk, Xp, Xt, Nat.reduceBEq, cv, cvL, wrL, Xw, Xy, XA, XB, keep, kp, cand, cor, List.map, List.append, Option.bind, ↓reduceIte, Nat.reduceEqDiff, Nat.reduceAdd, Nat.reduceMul, Nat.reduceLT, Nat.reduceLeDiff, reduceCtorEq, Int.reduceLT, Int.reduceLE, Int.reduceBEq, Int.reduceBNe, Int.reduceAdd, Int.reduceSub, Int.reduceToNat, dq, tya, bhiD, freL, allL, false_and, and_false, and_self, locF, locP, locW, locN, refA, refO, backOk, renV, renSs, renS, renDs, renD, renK, rkK, renCs, renC, renL_nil, renL_cons, renL_app, renL_encL, renL_set, renDs_enc, rkV, rkSs, rkS, rkDs, rkD, rkCs, rkC, rkL_nil, rkL_cons, rkL_app, rkL_encL, rkL_set, rkDs_enc, refTs, refT, refPs, locs, swp, bsOf, insOk, bijOk, outsOf, freshOk, wbOut, rkB, deadB, deB, enB, decL_encL, isL_enc, encL_len, freL, fre0B, allL, hal, hR, hd1, hd2, hd3, hd4, hd5, hd6, he1, he2, encL_nil]; exact rfl); (repeat (with_reducible first | apply qa | apply qb | apply qc | apply qd | apply qe)))
    (apply DV.seqreg; kernel_rfl; (simp only [wpS, wpT, go1, evS, ev, Qc, Qd, QB, QE, QF, nilB, gdS, put1, sv, gs, gb, opd, cst, XW, QK, okS, QL, setAt, bad, dem, QP, QR, QS, QT, QU, QV, QW, QY, QZ, Q2, Q3, Q4, Q5, Q6, Q7, Q8, Q9, Xc, lf, lfs, Xd, Xe, Xg, Xh, Xj, Xk, asP, pOk, Xp, Xt, Nat.reduceBEq, cv, cvL, wrL, Xw, Xy, XA, XB, keep, kp, cand, cor, List.map, List.append, Option.bind, ↓reduceIte, Nat.reduceEqDiff, Nat.reduceAdd, Nat.reduceMul, Nat.reduceLT, Nat.reduceLeDiff, reduceCtorEq, Int.reduceLT, Int.reduceLE, Int.reduceBEq, Int.reduceBNe, Int.reduceAdd, Int.reduceSub, Int.reduceToNat, dq, tya, bhiD, freL, allL, encL_take, encL_len, List.take_length, lfL_encL, decL_encL, isL_enc, Nat.le_refl, hpq, hur, huq, k5, k6, hvh, hfe, g0, g1]; exact rfl); (repeat (with_reducible first | apply qa | apply qb | apply qc | apply qd | apply qe)))
    (refine DV.ret ?_; (repeat (first | (with_reducible refine thenD_ret' ?_) | (with_reducible refine blockD_ret' ?_))); (with_reducible refine retD_ret' ?_); (try simp only [resOk, resL, rvS, toR, noMu, wpS, wpT, go1, evS, ev, Qc, Qd, QB, QE, QF, nilB, gdS, put1, sv, gs, gb, opd, cst, XW, QK, okS, QL, setAt, bad, dem, QP, QR, QS, QT, QU, QV, QW, QY, QZ, Q2, Q3, Q4, Q5, Q6, Q7, Q8, Q9, Xc, lf, lfs, Xd, Xe, Xg, Xh, Xj, Xk, asP, pOk, Xp, Xt, Nat.reduceBEq, cv, cvL, wrL, Xw, Xy, XA, XB, keep, kp, cand, cor, List.map, List.append, Option.bind, ↓reduceIte, Nat.reduceEqDiff, Nat.reduceAdd, Nat.reduceMul, Nat.reduceLT, Nat.reduceLeDiff, reduceCtorEq, Int.reduceLT, Int.reduceLE, Int.reduceBEq, Int.reduceBNe, Int.reduceAdd, Int.reduceSub, Int.reduceToNat, dq, tya, bhiD, freL, allL]))
    try decide
  · exact h.elim
end Go.Proofs.Ytkmgdejpdhlleaa.Dq

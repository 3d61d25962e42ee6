/- Graphs put together step by step, by deep values: what they are; the small functions. -/
import Derived.Test.YtkmgdejpdhlleaaVaR
import Derived.Test.YtkmgdejpdhlleaaBuP
namespace Go.Proofs.Ytkmgdejpdhlleaa.Dq
set_option linter.unusedSimpArgs false
set_option linter.unusedVariables false
set_option maxRecDepth 100000
open Go.RowKit
open Va

def lpC : Cod Lp where
  K := 3
  enc := fun m => [.int .i64 m.s, .int .i64 m.b, .int .i64 m.f]
  dec := fun l => match l with
    | [.int _ f, .int _ n, .int _ m] => ⟨f, n, m⟩
    | _ => ⟨0, 0, 0⟩
  de := fun _ => rfl
  len := fun _ => rfl
  lf := fun _ => rfl
theorem lpE (m : Lp) : lpC.enc m = [.int .i64 m.s, .int .i64 m.b, .int .i64 m.f] := rfl
def spC : Cod Sp where
  K := 4
  enc := fun m => [.int .i64 m.k, .int .i64 m.nd, .int .i64 m.a, .sl (encL isC m.pr)]
  dec := fun l => match l with
    | [.int _ k, .int _ s, .int _ a, .sl p] => ⟨k, s, a, decL isC p⟩
    | _ => ⟨0, 0, 0, []⟩
  de := fun m => by dsimp only; rw [decL_encL]
  len := fun _ => rfl
  lf := fun _ => rfl
theorem spE (m : Sp) : spC.enc m = [.int .i64 m.k, .int .i64 m.nd, .int .i64 m.a, .sl (encL isC m.pr)] := rfl
theorem lp_all (l : List Lp) : allK 3 (encL lpC l) := encL_all (C := lpC) l
theorem sp_all (l : List Sp) : allK 4 (encL spC l) := encL_all (C := spC) l
/-- A builder as its readers see it. -/
def vw (q : Nat) (l : List Lp) : Bs := ⟨[], [], [], [], [], q, l, l.length⟩
theorem vw_at {v : Bs} {Q : Nat} (h : v.r ≤ v.L.length) (h0 : 0 < v.r) : lpAt (vw Q (v.L.take v.r)) = lpAt v := by
  unfold lpAt vw
  dsimp only
  rw [List.length_take, Nat.min_eq_left h, List.getElem?_take, if_pos (by omega)]
theorem vw_sco {v : Bs} {Q : Nat} (h : v.r ≤ v.L.length) : scoI (vw Q (v.L.take v.r)) = scoI v := by
  unfold scoI
  have e : (vw Q (v.L.take v.r)).r = v.r := by unfold vw; dsimp only; rw [List.length_take, Nat.min_eq_left h]
  rw [e]
  split
  · next h0 => rw [vw_at h h0]
  · rfl
theorem vw_hig {v : Bs} (h : v.r ≤ v.L.length) : higI (vw v.q (v.L.take v.r)) = higI v := by
  unfold higI floI
  have e : (vw v.q (v.L.take v.r)).r = v.r := by unfold vw; dsimp only; rw [List.length_take, Nat.min_eq_left h]
  rw [e]
  congr 1
  split
  · next h0 => rw [vw_at h h0]
  · rfl
theorem vw_may {v : Bs} {s : Sp} (h : v.r ≤ v.L.length) : mayI (vw v.q (v.L.take v.r)) s = mayI v s := by
  unfold mayI
  have e : (vw v.q (v.L.take v.r)).r = v.r := by unfold vw; dsimp only; rw [List.length_take, Nat.min_eq_left h]
  rw [e, vw_hig h]
def bkyD : List S1 → CR × Prop
  | [.c (.int .i64 k)] => (.one (.c (.bool (keyB k))), True)
  | _ => (.one (.c (.bool false)), False)
theorem bky_cal (args : List S1) (h : (bkyD args).2) : Cal Try.prog 195 args (bkyD args).1 := by
  unfold bkyD at h ⊢
  split at h
  · next k =>
    refine DV.of (Γ := ⟨[], [], []⟩) (rs := [ResultVar.tmp 2]) [0, 2] ⟨nofun, nofun⟩ (by kernel_rfl) Try.func195 rfl rfl (by kernel_rfl) rfl ?_; (repeat (with_reducible first | apply qa | apply qb | apply qc | apply qd | apply qe))
    (apply DV.seqreg; kernel_rfl; (simp only [wpS, wpT, go1, evS, ev, Qd, Qe, Qg, nilB, gdS, put1, sv, gs, gb, opd, cst, XW, QK, okS, QL, setAt, bad, dem, QP, QR, QS, QT, QU, QV, QW, QY, QZ, Q2, Q3, Q4, Q5, Q6, lf, lfs, asP, pOk, Xp, Nat.reduceBEq, XA, XB, keep, kp, cand, cor, List.map, List.append, Option.bind, ↓reduceIte, Nat.reduceEqDiff, Nat.reduceAdd, Nat.reduceMul, Nat.reduceLT, Nat.reduceLeDiff, reduceCtorEq, Int.reduceLT, Int.reduceLE, Int.reduceBEq, Int.reduceBNe, Int.reduceAdd, Int.reduceSub, Int.reduceToNat, dq, tya]; exact rfl); (repeat (with_reducible first | apply qa | apply qb | apply qc | apply qd | apply qe)))
    (apply DV.seqreg; kernel_rfl; (simp only [wpS, wpT, go1, evS, ev, Qd, Qe, Qg, nilB, gdS, put1, sv, gs, gb, opd, cst, XW, QK, okS, QL, setAt, bad, dem, QP, QR, QS, QT, QU, QV, QW, QY, QZ, Q2, Q3, Q4, Q5, Q6, lf, lfs, asP, pOk, Xp, Nat.reduceBEq, XA, XB, keep, kp, cand, cor, List.map, List.append, Option.bind, ↓reduceIte, Nat.reduceEqDiff, Nat.reduceAdd, Nat.reduceMul, Nat.reduceLT, Nat.reduceLeDiff, reduceCtorEq, Int.reduceLT, Int.reduceLE, Int.reduceBEq, Int.reduceBNe, Int.reduceAdd, Int.reduceSub, Int.reduceToNat, dq, tya]; exact rfl); (repeat (with_reducible first | apply qa | apply qb | apply qc | apply qd | apply qe)))
    (refine DV.ret ?_; (repeat (first | (with_reducible refine thenD_ret' ?_) | (with_reducible refine blockD_ret' ?_))); (with_reducible refine retD_ret' ?_); (try simp only [resOk, resL, rvS, toR, noMu, wpS, wpT, go1, evS, ev, Qd, Qe, Qg, nilB, gdS, put1, sv, gs, gb, opd, cst, XW, QK, okS, QL, setAt, bad, dem, QP, QR, QS, QT, QU, QV, QW, QY, QZ, Q2, Q3, Q4, Q5, Q6, lf, lfs, asP, pOk, Xp, Nat.reduceBEq, XA, XB, keep, kp, cand, cor, List.map, List.append, Option.bind, ↓reduceIte, Nat.reduceEqDiff, Nat.reduceAdd, Nat.reduceMul, Nat.reduceLT, Nat.reduceLeDiff, reduceCtorEq, Int.reduceLT, Int.reduceLE, Int.reduceBEq, Int.reduceBNe, Int.reduceAdd, Int.reduceSub, Int.reduceToNat, dq, tya]))
    try rfl
  · exact h.elim
def bfrD : List S1 → CR × Prop
  | [.c (.int .i64 k)] => (.one (.c (.bool (freB k))), True)
  | _ => (.one (.c (.bool false)), False)
theorem bfr_cal (args : List S1) (h : (bfrD args).2) : Cal Try.prog 159 args (bfrD args).1 := by
  unfold bfrD at h ⊢
  split at h
  · next k =>
    refine DV.of (Γ := ⟨[], [], []⟩) (rs := [ResultVar.tmp 2]) [0, 2] ⟨nofun, nofun⟩ (by kernel_rfl) Try.func159 rfl rfl (by kernel_rfl) rfl ?_; (repeat (with_reducible first | apply qa | apply qb | apply qc | apply qd | apply qe))
    (apply DV.seqreg; kernel_rfl; (simp only [wpS, wpT, go1, evS, ev, Qd, Qe, Qg, nilB, gdS, put1, sv, gs, gb, opd, cst, XW, QK, okS, QL, setAt, bad, dem, QP, QR, QS, QT, QU, QV, QW, QY, QZ, Q2, Q3, Q4, Q5, Q6, lf, lfs, asP, pOk, Xp, Nat.reduceBEq, XA, XB, keep, kp, cand, cor, List.map, List.append, Option.bind, ↓reduceIte, Nat.reduceEqDiff, Nat.reduceAdd, Nat.reduceMul, Nat.reduceLT, Nat.reduceLeDiff, reduceCtorEq, Int.reduceLT, Int.reduceLE, Int.reduceBEq, Int.reduceBNe, Int.reduceAdd, Int.reduceSub, Int.reduceToNat, dq, tya]; exact rfl); (repeat (with_reducible first | apply qa | apply qb | apply qc | apply qd | apply qe)))
    (apply DV.seqreg; kernel_rfl; (simp only [wpS, wpT, go1, evS, ev, Qd, Qe, Qg, nilB, gdS, put1, sv, gs, gb, opd, cst, XW, QK, okS, QL, setAt, bad, dem, QP, QR, QS, QT, QU, QV, QW, QY, QZ, Q2, Q3, Q4, Q5, Q6, lf, lfs, asP, pOk, Xp, Nat.reduceBEq, XA, XB, keep, kp, cand, cor, List.map, List.append, Option.bind, ↓reduceIte, Nat.reduceEqDiff, Nat.reduceAdd, Nat.reduceMul, Nat.reduceLT, Nat.reduceLeDiff, reduceCtorEq, Int.reduceLT, Int.reduceLE, Int.reduceBEq, Int.reduceBNe, Int.reduceAdd, Int.reduceSub, Int.reduceToNat, dq, tya]; exact rfl); (repeat (with_reducible first | apply qa | apply qb | apply qc | apply qd | apply qe)))
    (refine DV.ret ?_; (repeat (first | (with_reducible refine thenD_ret' ?_) | (with_reducible refine blockD_ret' ?_))); (with_reducible refine retD_ret' ?_); (try simp only [resOk, resL, rvS, toR, noMu, wpS, wpT, go1, evS, ev, Qd, Qe, Qg, nilB, gdS, put1, sv, gs, gb, opd, cst, XW, QK, okS, QL, setAt, bad, dem, QP, QR, QS, QT, QU, QV, QW, QY, QZ, Q2, Q3, Q4, Q5, Q6, lf, lfs, asP, pOk, Xp, Nat.reduceBEq, XA, XB, keep, kp, cand, cor, List.map, List.append, Option.bind, ↓reduceIte, Nat.reduceEqDiff, Nat.reduceAdd, Nat.reduceMul, Nat.reduceLT, Nat.reduceLeDiff, reduceCtorEq, Int.reduceLT, Int.reduceLE, Int.reduceBEq, Int.reduceBNe, Int.reduceAdd, Int.reduceSub, Int.reduceToNat, dq, tya]))
    try rfl
  · exact h.elim
def bfoD : List S1 → CR × Prop
  | [.agg s] => (.one (.c (.bool (forB (spC.dec s)))), spC.enc (spC.dec s) = s)
  | _ => (.one (.c (.bool false)), False)
set_option maxHeartbeats 4000000 in
theorem bfo_cal (args : List S1) (h : (bfoD args).2) : Cal Try.prog 158 args (bfoD args).1 := by
  unfold bfoD at h ⊢
  split at h
  · next s0 =>
    refine DV.of (Γ := ⟨[], [], []⟩) (rs := [ResultVar.tmp 2]) [0, 1, 2, 3] ⟨nofun, nofun⟩ (by kernel_rfl) Try.func158 rfl rfl (by kernel_rfl) rfl ?_; (repeat (with_reducible first | apply qa | apply qb | apply qc | apply qd | apply qe))
    have hs := h
    obtain ⟨s, rfl⟩ : ∃ v, s0 = spC.enc v := ⟨_, hs.symm⟩
    rw [spC.de]
    obtain ⟨R, hR⟩ : ∃ R, forB s = R := ⟨_, rfl⟩
    rw [hR]
    unfold forB at hR
    obtain ⟨b1, h1⟩ : ∃ b, (s.k == 1) = b := ⟨_, rfl⟩
    obtain ⟨b2, h2⟩ : ∃ b, decide (1 ≤ s.k) = b := ⟨_, rfl⟩
    obtain ⟨b3, h3⟩ : ∃ b, decide (s.k ≤ 8) = b := ⟨_, rfl⟩
    obtain ⟨b4, h4⟩ : ∃ b, (s.k == 6) = b := ⟨_, rfl⟩
    obtain ⟨b5, h5⟩ : ∃ b, (s.a == 0) = b := ⟨_, rfl⟩
    obtain ⟨b6, h6⟩ : ∃ b, (s.nd == 0) = b := ⟨_, rfl⟩
    obtain ⟨b7, h7⟩ : ∃ b, ((s.pr.length : Int) == 0) = b := ⟨_, rfl⟩
    rw [h1, h2, h3, h4, h5, h6, h7] at hR
    (apply DV.seqreg; kernel_rfl; (simp only [wpS, wpT, go1, evS, ev, Qc, Qd, Qe, Qg, Qk, Qs, Qu, QB, nilB, gdS, put1, sv, gs, gb, opd, cst, XW, QK, okS, QL, setAt, bad, dem, QP, QR, QS, QT, QU, QV, QW, QY, QZ, Q2, Q3, Q4, Q5, Q6, lf, lfs, asP, pOk, Xp, Nat.reduceBEq, XA, XB, keep, kp, cand, cor, List.map, List.append, Option.bind, ↓reduceIte, Nat.reduceEqDiff, Nat.reduceAdd, Nat.reduceMul, Nat.reduceLT, Nat.reduceLeDiff, reduceCtorEq, Int.reduceLT, Int.reduceLE, Int.reduceBEq, Int.reduceBNe, Int.reduceAdd, Int.reduceSub, Int.reduceToNat, dq, tya, spE]; exact rfl); (repeat (with_reducible first | apply qa | apply qb | apply qc | apply qd | apply qe)))
    (apply DV.seqreg; kernel_rfl; (simp only [wpS, wpT, go1, evS, ev, Qc, Qd, Qe, Qg, Qk, Qs, Qu, QB, nilB, gdS, put1, sv, gs, gb, opd, cst, XW, QK, okS, QL, setAt, bad, dem, QP, QR, QS, QT, QU, QV, QW, QY, QZ, Q2, Q3, Q4, Q5, Q6, lf, lfs, asP, pOk, Xp, Nat.reduceBEq, XA, XB, keep, kp, cand, cor, List.map, List.append, Option.bind, ↓reduceIte, Nat.reduceEqDiff, Nat.reduceAdd, Nat.reduceMul, Nat.reduceLT, Nat.reduceLeDiff, reduceCtorEq, Int.reduceLT, Int.reduceLE, Int.reduceBEq, Int.reduceBNe, Int.reduceAdd, Int.reduceSub, Int.reduceToNat, dq, tya, spE, h1]; exact rfl); (repeat (with_reducible first | apply qa | apply qb | apply qc | apply qd | apply qe)))
    (apply DV.seqreg; kernel_rfl; (simp only [wpS, wpT, go1, evS, ev, Qc, Qd, Qe, Qg, Qk, Qs, Qu, QB, nilB, gdS, put1, sv, gs, gb, opd, cst, XW, QK, okS, QL, setAt, bad, dem, QP, QR, QS, QT, QU, QV, QW, QY, QZ, Q2, Q3, Q4, Q5, Q6, lf, lfs, asP, pOk, Xp, Nat.reduceBEq, XA, XB, keep, kp, cand, cor, List.map, List.append, Option.bind, ↓reduceIte, Nat.reduceEqDiff, Nat.reduceAdd, Nat.reduceMul, Nat.reduceLT, Nat.reduceLeDiff, reduceCtorEq, Int.reduceLT, Int.reduceLE, Int.reduceBEq, Int.reduceBNe, Int.reduceAdd, Int.reduceSub, Int.reduceToNat, dq, tya, spE, encL_len, h1, h2, h3, h4, h5, h6, h7]; exact rfl); (repeat (with_reducible first | apply qa | apply qb | apply qc | apply qd | apply qe)))
    (refine DV.ret ?_; (repeat (first | (with_reducible refine thenD_ret' ?_) | (with_reducible refine blockD_ret' ?_))); (with_reducible refine retD_ret' ?_); (try simp only [resOk, resL, rvS, toR, noMu, wpS, wpT, go1, evS, ev, Qc, Qd, Qe, Qg, Qk, Qs, Qu, QB, nilB, gdS, put1, sv, gs, gb, opd, cst, XW, QK, okS, QL, setAt, bad, dem, QP, QR, QS, QT, QU, QV, QW, QY, QZ, Q2, Q3, Q4, Q5, Q6, lf, lfs, asP, pOk, Xp, Nat.reduceBEq, XA, XB, keep, kp, cand, cor, List.map, List.append, Option.bind, ↓reduceIte, Nat.reduceEqDiff, Nat.reduceAdd, Nat.reduceMul, Nat.reduceLT, Nat.reduceLeDiff, reduceCtorEq, Int.reduceLT, Int.reduceLE, Int.reduceBEq, Int.reduceBNe, Int.reduceAdd, Int.reduceSub, Int.reduceToNat, dq, tya]))
    try rw [← hR]
    try (cases b1 <;> cases b2 <;> cases b3 <;> cases b4 <;> cases b5 <;> cases b6 <;> cases b7 <;> first | rfl | decide)
  · exact h.elim
def btkD : List S1 → CR × Prop
  | [.agg s] => (.one (.c (.int .i64 (tksI (spC.dec s)))), spC.enc (spC.dec s) = s)
  | _ => (.one (.c (.bool false)), False)
set_option maxHeartbeats 4000000 in
theorem btk_cal (args : List S1) (h : (btkD args).2) : Cal Try.prog 160 args (btkD args).1 := by
  unfold btkD at h ⊢
  split at h
  · next s0 =>
    refine DV.of (Γ := ⟨[(125, ptsD)], [], []⟩) (rs := [ResultVar.tmp 2]) [0, 1, 2, 4, 5, 7, 12] ⟨by intro p hp; simp only [List.mem_singleton] at hp; subst hp; exact pts_cal, nofun⟩ (by kernel_rfl) Try.func160 rfl rfl (by kernel_rfl) rfl ?_; (repeat (with_reducible first | apply qa | apply qb | apply qc | apply qd | apply qe))
    have hs := h
    obtain ⟨s, rfl⟩ : ∃ v, s0 = spC.enc v := ⟨_, hs.symm⟩
    rw [spC.de]
    obtain ⟨R, hR⟩ : ∃ R, tksI s = R := ⟨_, rfl⟩
    rw [hR]
    unfold tksI at hR
    obtain ⟨b1, h1⟩ : ∃ b, (s.k == 2) = b := ⟨_, rfl⟩
    obtain ⟨b2, h2⟩ : ∃ b, (s.k == 1) = b := ⟨_, rfl⟩
    obtain ⟨b3, h3⟩ : ∃ b, (s.k == 5) = b := ⟨_, rfl⟩
    rw [h1, h2, h3] at hR
    (apply DV.seqreg; kernel_rfl; (simp only [wpS, wpT, go1, evS, ev, Qc, Qd, Qg, Qk, Qs, Qu, QB, QE, QF, nilB, gdS, put1, sv, gs, gb, opd, cst, XW, QK, okS, QL, setAt, bad, dem, QP, QR, QS, QT, QU, QV, QW, QY, QZ, Q2, Q3, Q4, Q5, Q6, Q7, Q8, Q9, Xc, lf, lfs, Xd, Xe, Xg, Xh, Xj, Xk, asP, pOk, Xp, Xt, Nat.reduceBEq, cv, cvL, wrL, Xw, Xy, XA, XB, keep, kp, cand, cor, List.map, List.append, Option.bind, ↓reduceIte, Nat.reduceEqDiff, Nat.reduceAdd, Nat.reduceMul, Nat.reduceLT, Nat.reduceLeDiff, reduceCtorEq, Int.reduceLT, Int.reduceLE, Int.reduceBEq, Int.reduceBNe, Int.reduceAdd, Int.reduceSub, Int.reduceToNat, dq, tya, ptsD, spE]; exact rfl); (repeat (with_reducible first | apply qa | apply qb | apply qc | apply qd | apply qe)))
    (apply DV.seqreg; kernel_rfl; (simp only [wpS, wpT, go1, evS, ev, Qc, Qd, Qg, Qk, Qs, Qu, QB, QE, QF, nilB, gdS, put1, sv, gs, gb, opd, cst, XW, QK, okS, QL, setAt, bad, dem, QP, QR, QS, QT, QU, QV, QW, QY, QZ, Q2, Q3, Q4, Q5, Q6, Q7, Q8, Q9, Xc, lf, lfs, Xd, Xe, Xg, Xh, Xj, Xk, asP, pOk, Xp, Xt, Nat.reduceBEq, cv, cvL, wrL, Xw, Xy, XA, XB, keep, kp, cand, cor, List.map, List.append, Option.bind, ↓reduceIte, Nat.reduceEqDiff, Nat.reduceAdd, Nat.reduceMul, Nat.reduceLT, Nat.reduceLeDiff, reduceCtorEq, Int.reduceLT, Int.reduceLE, Int.reduceBEq, Int.reduceBNe, Int.reduceAdd, Int.reduceSub, Int.reduceToNat, dq, tya, ptsD, spE]; exact rfl); (repeat (with_reducible first | apply qa | apply qb | apply qc | apply qd | apply qe)))
    (apply DV.seqreg; kernel_rfl; (simp only [wpS, wpT, go1, evS, ev, Qc, Qd, Qg, Qk, Qs, Qu, QB, QE, QF, nilB, gdS, put1, sv, gs, gb, opd, cst, XW, QK, okS, QL, setAt, bad, dem, QP, QR, QS, QT, QU, QV, QW, QY, QZ, Q2, Q3, Q4, Q5, Q6, Q7, Q8, Q9, Xc, lf, lfs, Xd, Xe, Xg, Xh, Xj, Xk, asP, pOk, Xp, Xt, Nat.reduceBEq, cv, cvL, wrL, Xw, Xy, XA, XB, keep, kp, cand, cor, List.map, List.append, Option.bind, ↓reduceIte, Nat.reduceEqDiff, Nat.reduceAdd, Nat.reduceMul, Nat.reduceLT, Nat.reduceLeDiff, reduceCtorEq, Int.reduceLT, Int.reduceLE, Int.reduceBEq, Int.reduceBNe, Int.reduceAdd, Int.reduceSub, Int.reduceToNat, dq, tya, ptsD, h1]; exact rfl); (repeat (with_reducible first | apply qa | apply qb | apply qc | apply qd | apply qe)))
    cases b1
    rotate_left 1
    · (refine DV.condT rfl (fun _ => rfl) ?_; (repeat (with_reducible first | apply qa | apply qb | apply qc | apply qd | apply qe)))
      (apply DV.seqreg; kernel_rfl; (simp only [wpS, wpT, go1, evS, ev, Qc, Qd, Qg, Qk, Qs, Qu, QB, QE, QF, nilB, gdS, put1, sv, gs, gb, opd, cst, XW, QK, okS, QL, setAt, bad, dem, QP, QR, QS, QT, QU, QV, QW, QY, QZ, Q2, Q3, Q4, Q5, Q6, Q7, Q8, Q9, Xc, lf, lfs, Xd, Xe, Xg, Xh, Xj, Xk, asP, pOk, Xp, Xt, Nat.reduceBEq, cv, cvL, wrL, Xw, Xy, XA, XB, keep, kp, cand, cor, List.map, List.append, Option.bind, ↓reduceIte, Nat.reduceEqDiff, Nat.reduceAdd, Nat.reduceMul, Nat.reduceLT, Nat.reduceLeDiff, reduceCtorEq, Int.reduceLT, Int.reduceLE, Int.reduceBEq, Int.reduceBNe, Int.reduceAdd, Int.reduceSub, Int.reduceToNat, dq, tya, ptsD]; exact rfl); (repeat (with_reducible first | apply qa | apply qb | apply qc | apply qd | apply qe)))
      (refine DV.ret ?_; (repeat (first | (with_reducible refine thenD_ret' ?_) | (with_reducible refine blockD_ret' ?_))); (with_reducible refine retD_ret' ?_); (try simp only [resOk, resL, rvS, toR, noMu, wpS, wpT, go1, evS, ev, Qc, Qd, Qg, Qk, Qs, Qu, QB, QE, QF, nilB, gdS, put1, sv, gs, gb, opd, cst, XW, QK, okS, QL, setAt, bad, dem, QP, QR, QS, QT, QU, QV, QW, QY, QZ, Q2, Q3, Q4, Q5, Q6, Q7, Q8, Q9, Xc, lf, lfs, Xd, Xe, Xg, Xh, Xj, Xk, asP, pOk, Xp, Xt, Nat.reduceBEq, cv, cvL, wrL, Xw, Xy, XA, XB, keep, kp, cand, cor, List.map, List.append, Option.bind, ↓reduceIte, Nat.reduceEqDiff, Nat.reduceAdd, Nat.reduceMul, Nat.reduceLT, Nat.reduceLeDiff, reduceCtorEq, Int.reduceLT, Int.reduceLE, Int.reduceBEq, Int.reduceBNe, Int.reduceAdd, Int.reduceSub, Int.reduceToNat, dq, tya, ptsD]))
      exact hR
    (refine DV.condF rfl (fun _ => rfl) ?_; (repeat (with_reducible first | apply qa | apply qb | apply qc | apply qd | apply qe)))
    (apply DV.seqreg; kernel_rfl; (simp only [wpS, wpT, go1, evS, ev, Qc, Qd, Qg, Qk, Qs, Qu, QB, QE, QF, nilB, gdS, put1, sv, gs, gb, opd, cst, XW, QK, okS, QL, setAt, bad, dem, QP, QR, QS, QT, QU, QV, QW, QY, QZ, Q2, Q3, Q4, Q5, Q6, Q7, Q8, Q9, Xc, lf, lfs, Xd, Xe, Xg, Xh, Xj, Xk, asP, pOk, Xp, Xt, Nat.reduceBEq, cv, cvL, wrL, Xw, Xy, XA, XB, keep, kp, cand, cor, List.map, List.append, Option.bind, ↓reduceIte, Nat.reduceEqDiff, Nat.reduceAdd, Nat.reduceMul, Nat.reduceLT, Nat.reduceLeDiff, reduceCtorEq, Int.reduceLT, Int.reduceLE, Int.reduceBEq, Int.reduceBNe, Int.reduceAdd, Int.reduceSub, Int.reduceToNat, dq, tya, ptsD, h2]; exact rfl); (repeat (with_reducible first | apply qa | apply qb | apply qc | apply qd | apply qe)))
    cases b2
    rotate_left 1
    · (refine DV.condT rfl (fun _ => rfl) ?_; (repeat (with_reducible first | apply qa | apply qb | apply qc | apply qd | apply qe)))
      (apply DV.seqreg; kernel_rfl; (simp only [wpS, wpT, go1, evS, ev, Qc, Qd, Qg, Qk, Qs, Qu, QB, QE, QF, nilB, gdS, put1, sv, gs, gb, opd, cst, XW, QK, okS, QL, setAt, bad, dem, QP, QR, QS, QT, QU, QV, QW, QY, QZ, Q2, Q3, Q4, Q5, Q6, Q7, Q8, Q9, Xc, lf, lfs, Xd, Xe, Xg, Xh, Xj, Xk, asP, pOk, Xp, Xt, Nat.reduceBEq, cv, cvL, wrL, Xw, Xy, XA, XB, keep, kp, cand, cor, List.map, List.append, Option.bind, ↓reduceIte, Nat.reduceEqDiff, Nat.reduceAdd, Nat.reduceMul, Nat.reduceLT, Nat.reduceLeDiff, reduceCtorEq, Int.reduceLT, Int.reduceLE, Int.reduceBEq, Int.reduceBNe, Int.reduceAdd, Int.reduceSub, Int.reduceToNat, dq, tya, ptsD, spE]; exact rfl); (repeat (with_reducible first | apply qa | apply qb | apply qc | apply qd | apply qe)))
      (refine DV.ret ?_; (repeat (first | (with_reducible refine thenD_ret' ?_) | (with_reducible refine blockD_ret' ?_))); (with_reducible refine retD_ret' ?_); (try simp only [resOk, resL, rvS, toR, noMu, wpS, wpT, go1, evS, ev, Qc, Qd, Qg, Qk, Qs, Qu, QB, QE, QF, nilB, gdS, put1, sv, gs, gb, opd, cst, XW, QK, okS, QL, setAt, bad, dem, QP, QR, QS, QT, QU, QV, QW, QY, QZ, Q2, Q3, Q4, Q5, Q6, Q7, Q8, Q9, Xc, lf, lfs, Xd, Xe, Xg, Xh, Xj, Xk, asP, pOk, Xp, Xt, Nat.reduceBEq, cv, cvL, wrL, Xw, Xy, XA, XB, keep, kp, cand, cor, List.map, List.append, Option.bind, ↓reduceIte, Nat.reduceEqDiff, Nat.reduceAdd, Nat.reduceMul, Nat.reduceLT, Nat.reduceLeDiff, reduceCtorEq, Int.reduceLT, Int.reduceLE, Int.reduceBEq, Int.reduceBNe, Int.reduceAdd, Int.reduceSub, Int.reduceToNat, dq, tya, ptsD]))
      exact hR
    (refine DV.condF rfl (fun _ => rfl) ?_; (repeat (with_reducible first | apply qa | apply qb | apply qc | apply qd | apply qe)))
    (apply DV.seqreg; kernel_rfl; (simp only [wpS, wpT, go1, evS, ev, Qc, Qd, Qg, Qk, Qs, Qu, QB, QE, QF, nilB, gdS, put1, sv, gs, gb, opd, cst, XW, QK, okS, QL, setAt, bad, dem, QP, QR, QS, QT, QU, QV, QW, QY, QZ, Q2, Q3, Q4, Q5, Q6, Q7, Q8, Q9, Xc, lf, lfs, Xd, Xe, Xg, Xh, Xj, Xk, asP, pOk, Xp, Xt, Nat.reduceBEq, cv, cvL, wrL, Xw, Xy, XA, XB, keep, kp, cand, cor, List.map, List.append, Option.bind, ↓reduceIte, Nat.reduceEqDiff, Nat.reduceAdd, Nat.reduceMul, Nat.reduceLT, Nat.reduceLeDiff, reduceCtorEq, Int.reduceLT, Int.reduceLE, Int.reduceBEq, Int.reduceBNe, Int.reduceAdd, Int.reduceSub, Int.reduceToNat, dq, tya, ptsD, h3]; exact rfl); (repeat (with_reducible first | apply qa | apply qb | apply qc | apply qd | apply qe)))
    cases b3
    rotate_left 1
    · (refine DV.condT rfl (fun _ => rfl) ?_; (repeat (with_reducible first | apply qa | apply qb | apply qc | apply qd | apply qe)))
      (apply DV.seqreg; kernel_rfl; (simp only [wpS, wpT, go1, evS, ev, Qc, Qd, Qg, Qk, Qs, Qu, QB, QE, QF, nilB, gdS, put1, sv, gs, gb, opd, cst, XW, QK, okS, QL, setAt, bad, dem, QP, QR, QS, QT, QU, QV, QW, QY, QZ, Q2, Q3, Q4, Q5, Q6, Q7, Q8, Q9, Xc, lf, lfs, Xd, Xe, Xg, Xh, Xj, Xk, asP, pOk, Xp, Xt, Nat.reduceBEq, cv, cvL, wrL, Xw, Xy, XA, XB, keep, kp, cand, cor, List.map, List.append, Option.bind, ↓reduceIte, Nat.reduceEqDiff, Nat.reduceAdd, Nat.reduceMul, Nat.reduceLT, Nat.reduceLeDiff, reduceCtorEq, Int.reduceLT, Int.reduceLE, Int.reduceBEq, Int.reduceBNe, Int.reduceAdd, Int.reduceSub, Int.reduceToNat, dq, tya, ptsD]; exact rfl); (repeat (with_reducible first | apply qa | apply qb | apply qc | apply qd | apply qe)))
      (refine DV.ret ?_; (repeat (first | (with_reducible refine thenD_ret' ?_) | (with_reducible refine blockD_ret' ?_))); (with_reducible refine retD_ret' ?_); (try simp only [resOk, resL, rvS, toR, noMu, wpS, wpT, go1, evS, ev, Qc, Qd, Qg, Qk, Qs, Qu, QB, QE, QF, nilB, gdS, put1, sv, gs, gb, opd, cst, XW, QK, okS, QL, setAt, bad, dem, QP, QR, QS, QT, QU, QV, QW, QY, QZ, Q2, Q3, Q4, Q5, Q6, Q7, Q8, Q9, Xc, lf, lfs, Xd, Xe, Xg, Xh, Xj, Xk, asP, pOk, Xp, Xt, Nat.reduceBEq, cv, cvL, wrL, Xw, Xy, XA, XB, keep, kp, cand, cor, List.map, List.append, Option.bind, ↓reduceIte, Nat.reduceEqDiff, Nat.reduceAdd, Nat.reduceMul, Nat.reduceLT, Nat.reduceLeDiff, reduceCtorEq, Int.reduceLT, Int.reduceLE, Int.reduceBEq, Int.reduceBNe, Int.reduceAdd, Int.reduceSub, Int.reduceToNat, dq, tya, ptsD]))
      exact hR
    (refine DV.condF rfl (fun _ => rfl) ?_; (repeat (with_reducible first | apply qa | apply qb | apply qc | apply qd | apply qe)))
    (refine DV.skip ?_; (repeat (with_reducible refine blockD_norm' ?_)); (with_reducible refine thenD_norm' ?_); (repeat (with_reducible first | apply qa | apply qb | apply qc | apply qd | apply qe)))
    (apply DV.seqreg; kernel_rfl; (simp only [wpS, wpT, go1, evS, ev, Qc, Qd, Qg, Qk, Qs, Qu, QB, QE, QF, nilB, gdS, put1, sv, gs, gb, opd, cst, XW, QK, okS, QL, setAt, bad, dem, QP, QR, QS, QT, QU, QV, QW, QY, QZ, Q2, Q3, Q4, Q5, Q6, Q7, Q8, Q9, Xc, lf, lfs, Xd, Xe, Xg, Xh, Xj, Xk, asP, pOk, Xp, Xt, Nat.reduceBEq, cv, cvL, wrL, Xw, Xy, XA, XB, keep, kp, cand, cor, List.map, List.append, Option.bind, ↓reduceIte, Nat.reduceEqDiff, Nat.reduceAdd, Nat.reduceMul, Nat.reduceLT, Nat.reduceLeDiff, reduceCtorEq, Int.reduceLT, Int.reduceLE, Int.reduceBEq, Int.reduceBNe, Int.reduceAdd, Int.reduceSub, Int.reduceToNat, dq, tya, ptsD]; exact rfl); (repeat (with_reducible first | apply qa | apply qb | apply qc | apply qd | apply qe)))
    (refine DV.ret ?_; (repeat (first | (with_reducible refine thenD_ret' ?_) | (with_reducible refine blockD_ret' ?_))); (with_reducible refine retD_ret' ?_); (try simp only [resOk, resL, rvS, toR, noMu, wpS, wpT, go1, evS, ev, Qc, Qd, Qg, Qk, Qs, Qu, QB, QE, QF, nilB, gdS, put1, sv, gs, gb, opd, cst, XW, QK, okS, QL, setAt, bad, dem, QP, QR, QS, QT, QU, QV, QW, QY, QZ, Q2, Q3, Q4, Q5, Q6, Q7, Q8, Q9, Xc, lf, lfs, Xd, Xe, Xg, Xh, Xj, Xk, asP, pOk, Xp, Xt, Nat.reduceBEq, cv, cvL, wrL, Xw, Xy, XA, XB, keep, kp, cand, cor, List.map, List.append, Option.bind, ↓reduceIte, Nat.reduceEqDiff, Nat.reduceAdd, Nat.reduceMul, Nat.reduceLT, Nat.reduceLeDiff, reduceCtorEq, Int.reduceLT, Int.reduceLE, Int.reduceBEq, Int.reduceBNe, Int.reduceAdd, Int.reduceSub, Int.reduceToNat, dq, tya, ptsD]))
    exact hR
  · exact h.elim
def bscD : List S1 → CR × Prop
  | [.ptr [.sl p, .sl b, .sl n, .sl e, .sl pl, .sl lo]] => (.one (.c (.int .i64 (scoI (vw pl.length (decL lpC lo))))), isL lpC lo ∧ (decL lpC lo).length ≤ 1000000)
  | _ => (.one (.c (.bool false)), False)
set_option maxHeartbeats 4000000 in
theorem bsc_cal (args : List S1) (h : (bscD args).2) : Cal Try.prog 187 args (bscD args).1 := by
  unfold bscD at h ⊢
  split at h
  · next p0 b0 n0' e0 pl l0 =>
    refine DV.of (Γ := ⟨[], [], []⟩) (rs := [ResultVar.tmp 2]) [0, 2, 3, 10] ⟨nofun, nofun⟩ (by kernel_rfl) Try.func187 rfl rfl (by kernel_rfl) rfl ?_; (repeat (with_reducible first | apply qa | apply qb | apply qc | apply qd | apply qe))
    obtain ⟨hl, hn⟩ := h
    obtain ⟨lo, rfl⟩ : ∃ v, l0 = encL lpC v := ⟨_, hl.symm⟩
    rw [decL_encL] at hn ⊢
    obtain ⟨R, hR⟩ : ∃ R, scoI (vw pl.length lo) = R := ⟨_, rfl⟩
    rw [hR]
    unfold scoI at hR
    obtain ⟨b, hb⟩ : ∃ b, decide (0 < (lo.length : Int)) = b := ⟨_, rfl⟩
    (apply DV.seqreg; kernel_rfl; (simp only [wpS, wpT, go1, evS, ev, Qc, Qd, Qg, Qk, Qo, Qs, QB, QJ, nilB, gdS, put1, sv, gs, gb, opd, cst, XW, QK, okS, QL, setAt, bad, dem, QP, QR, QS, QT, QU, QV, QW, QY, QZ, Q2, Q3, Q4, Q5, Q6, lf, lfs, asP, pOk, Xp, Xr, Nat.reduceBEq, XA, XB, keep, kp, cand, cor, List.map, List.append, Option.bind, ↓reduceIte, Nat.reduceEqDiff, Nat.reduceAdd, Nat.reduceMul, Nat.reduceLT, Nat.reduceLeDiff, reduceCtorEq, Int.reduceLT, Int.reduceLE, Int.reduceBEq, Int.reduceBNe, Int.reduceAdd, Int.reduceSub, Int.reduceToNat, dq, tya]; exact rfl); (repeat (with_reducible first | apply qa | apply qb | apply qc | apply qd | apply qe)))
    (apply DV.seqreg; kernel_rfl; (simp only [wpS, wpT, go1, evS, ev, Qc, Qd, Qg, Qk, Qo, Qs, QB, QJ, nilB, gdS, put1, sv, gs, gb, opd, cst, XW, QK, okS, QL, setAt, bad, dem, QP, QR, QS, QT, QU, QV, QW, QY, QZ, Q2, Q3, Q4, Q5, Q6, lf, lfs, asP, pOk, Xp, Xr, Nat.reduceBEq, XA, XB, keep, kp, cand, cor, List.map, List.append, Option.bind, ↓reduceIte, Nat.reduceEqDiff, Nat.reduceAdd, Nat.reduceMul, Nat.reduceLT, Nat.reduceLeDiff, reduceCtorEq, Int.reduceLT, Int.reduceLE, Int.reduceBEq, Int.reduceBNe, Int.reduceAdd, Int.reduceSub, Int.reduceToNat, dq, tya, encL_len]; exact rfl); (repeat (with_reducible first | apply qa | apply qb | apply qc | apply qd | apply qe)))
    (apply DV.seqreg; kernel_rfl; (simp only [wpS, wpT, go1, evS, ev, Qc, Qd, Qg, Qk, Qo, Qs, QB, QJ, nilB, gdS, put1, sv, gs, gb, opd, cst, XW, QK, okS, QL, setAt, bad, dem, QP, QR, QS, QT, QU, QV, QW, QY, QZ, Q2, Q3, Q4, Q5, Q6, lf, lfs, asP, pOk, Xp, Xr, Nat.reduceBEq, XA, XB, keep, kp, cand, cor, List.map, List.append, Option.bind, ↓reduceIte, Nat.reduceEqDiff, Nat.reduceAdd, Nat.reduceMul, Nat.reduceLT, Nat.reduceLeDiff, reduceCtorEq, Int.reduceLT, Int.reduceLE, Int.reduceBEq, Int.reduceBNe, Int.reduceAdd, Int.reduceSub, Int.reduceToNat, dq, tya, hb]; exact rfl); (repeat (with_reducible first | apply qa | apply qb | apply qc | apply qd | apply qe)))
    cases b
    · have r0 : ¬ 0 < (vw pl.length lo).r := by have := of_decide_eq_false hb; unfold vw; dsimp only; omega
      rw [if_neg r0] at hR
      (refine DV.condF rfl (fun _ => rfl) ?_; (repeat (with_reducible first | apply qa | apply qb | apply qc | apply qd | apply qe)))
      (refine DV.skip ?_; (repeat (with_reducible refine blockD_norm' ?_)); (with_reducible refine thenD_norm' ?_); (repeat (with_reducible first | apply qa | apply qb | apply qc | apply qd | apply qe)))
      (apply DV.seqreg; kernel_rfl; (simp only [wpS, wpT, go1, evS, ev, Qc, Qd, Qg, Qk, Qo, Qs, QB, QJ, nilB, gdS, put1, sv, gs, gb, opd, cst, XW, QK, okS, QL, setAt, bad, dem, QP, QR, QS, QT, QU, QV, QW, QY, QZ, Q2, Q3, Q4, Q5, Q6, lf, lfs, asP, pOk, Xp, Xr, Nat.reduceBEq, XA, XB, keep, kp, cand, cor, List.map, List.append, Option.bind, ↓reduceIte, Nat.reduceEqDiff, Nat.reduceAdd, Nat.reduceMul, Nat.reduceLT, Nat.reduceLeDiff, reduceCtorEq, Int.reduceLT, Int.reduceLE, Int.reduceBEq, Int.reduceBNe, Int.reduceAdd, Int.reduceSub, Int.reduceToNat, dq, tya]; exact rfl); (repeat (with_reducible first | apply qa | apply qb | apply qc | apply qd | apply qe)))
      (refine DV.ret ?_; (repeat (first | (with_reducible refine thenD_ret' ?_) | (with_reducible refine blockD_ret' ?_))); (with_reducible refine retD_ret' ?_); (try simp only [resOk, resL, rvS, toR, noMu, wpS, wpT, go1, evS, ev, Qc, Qd, Qg, Qk, Qo, Qs, QB, QJ, nilB, gdS, put1, sv, gs, gb, opd, cst, XW, QK, okS, QL, setAt, bad, dem, QP, QR, QS, QT, QU, QV, QW, QY, QZ, Q2, Q3, Q4, Q5, Q6, lf, lfs, asP, pOk, Xp, Xr, Nat.reduceBEq, XA, XB, keep, kp, cand, cor, List.map, List.append, Option.bind, ↓reduceIte, Nat.reduceEqDiff, Nat.reduceAdd, Nat.reduceMul, Nat.reduceLT, Nat.reduceLeDiff, reduceCtorEq, Int.reduceLT, Int.reduceLE, Int.reduceBEq, Int.reduceBNe, Int.reduceAdd, Int.reduceSub, Int.reduceToNat, dq, tya]))
      exact hR
    · have r0 : 0 < lo.length := by have := of_decide_eq_true hb; omega
      obtain ⟨x, hx⟩ : ∃ x, lo[lo.length - 1]? = some x := ⟨_, List.getElem?_eq_getElem (by omega)⟩
      have c3 := encL_get (C := lpC) hx
      have ew : IntKind.wrap .i64 ((lo.length : Int) - 1) = ((lo.length - 1 : Nat) : Int) := by rw [IntKind.wrap_i64]; omega
      have c1 : (0 : Int) ≤ ((lo.length - 1 : Nat) : Int) := by omega
      have c2 : ((lo.length - 1 : Nat) : Int) < (lo.length : Int) := by omega
      have hla : lpAt (vw pl.length lo) = x := by unfold lpAt vw; dsimp only; rw [hx]; rfl
      have hgt : (vw pl.length lo).r = lo.length := rfl
      rw [if_pos (by rw [hgt]; exact r0), hla] at hR
      (refine DV.condT rfl (fun _ => rfl) ?_; (repeat (with_reducible first | apply qa | apply qb | apply qc | apply qd | apply qe)))
      (apply DV.seqreg; kernel_rfl; (simp only [wpS, wpT, go1, evS, ev, Qc, Qd, Qg, Qk, Qo, Qs, QB, QJ, nilB, gdS, put1, sv, gs, gb, opd, cst, XW, QK, okS, QL, setAt, bad, dem, QP, QR, QS, QT, QU, QV, QW, QY, QZ, Q2, Q3, Q4, Q5, Q6, lf, lfs, asP, pOk, Xp, Xr, Nat.reduceBEq, XA, XB, keep, kp, cand, cor, List.map, List.append, Option.bind, ↓reduceIte, Nat.reduceEqDiff, Nat.reduceAdd, Nat.reduceMul, Nat.reduceLT, Nat.reduceLeDiff, reduceCtorEq, Int.reduceLT, Int.reduceLE, Int.reduceBEq, Int.reduceBNe, Int.reduceAdd, Int.reduceSub, Int.reduceToNat, dq, tya, i2n, encL_len, ew, c1, c2, c3, lpE]; exact rfl); (repeat (with_reducible first | apply qa | apply qb | apply qc | apply qd | apply qe)))
      (refine DV.ret ?_; (repeat (first | (with_reducible refine thenD_ret' ?_) | (with_reducible refine blockD_ret' ?_))); (with_reducible refine retD_ret' ?_); (try simp only [resOk, resL, rvS, toR, noMu, wpS, wpT, go1, evS, ev, Qc, Qd, Qg, Qk, Qo, Qs, QB, QJ, nilB, gdS, put1, sv, gs, gb, opd, cst, XW, QK, okS, QL, setAt, bad, dem, QP, QR, QS, QT, QU, QV, QW, QY, QZ, Q2, Q3, Q4, Q5, Q6, lf, lfs, asP, pOk, Xp, Xr, Nat.reduceBEq, XA, XB, keep, kp, cand, cor, List.map, List.append, Option.bind, ↓reduceIte, Nat.reduceEqDiff, Nat.reduceAdd, Nat.reduceMul, Nat.reduceLT, Nat.reduceLeDiff, reduceCtorEq, Int.reduceLT, Int.reduceLE, Int.reduceBEq, Int.reduceBNe, Int.reduceAdd, Int.reduceSub, Int.reduceToNat, dq, tya]))
      exact hR
  · exact h.elim
def bhiD : List S1 → CR × Prop
  | [.ptr [.sl p, .sl b, .sl n, .sl e, .sl pl, .sl lo]] => (.one (.c (.int .i64 (higI (vw pl.length (decL lpC lo))))), isL lpC lo ∧ (decL lpC lo).length ≤ 1000000 ∧ pl.length ≤ 1000000 ∧ 0 ≤ floI (vw pl.length (decL lpC lo)) ∧ floI (vw pl.length (decL lpC lo)) ≤ 1000000)
  | _ => (.one (.c (.bool false)), False)
set_option maxHeartbeats 4000000 in
theorem bhi_cal (args : List S1) (h : (bhiD args).2) : Cal Try.prog 78 args (bhiD args).1 := by
  unfold bhiD at h ⊢
  split at h
  · next p0 b0 n0' e0 pl l0 =>
    refine DV.of (Γ := ⟨[], [], []⟩) (rs := [ResultVar.tmp 2]) [0, 2, 3, 4, 11] ⟨nofun, nofun⟩ (by kernel_rfl) Try.func78 rfl rfl (by kernel_rfl) rfl ?_; (repeat (with_reducible first | apply qa | apply qb | apply qc | apply qd | apply qe))
    obtain ⟨hl, hn, hp, f0, f1⟩ := h
    obtain ⟨lo, rfl⟩ : ∃ v, l0 = encL lpC v := ⟨_, hl.symm⟩
    rw [decL_encL] at hn f0 f1 ⊢
    obtain ⟨R, hR⟩ : ∃ R, higI (vw pl.length lo) = R := ⟨_, rfl⟩
    rw [hR]
    unfold higI at hR
    have ew2 : IntKind.wrap .i64 ((pl.length : Int) - floI (vw pl.length lo)) = (pl.length : Int) - floI (vw pl.length lo) := by rw [IntKind.wrap_i64]; omega
    have hR : (pl.length : Int) - floI (vw pl.length lo) = R := hR
    unfold floI at hR ew2
    obtain ⟨b, hb⟩ : ∃ b, decide (0 < (lo.length : Int)) = b := ⟨_, rfl⟩
    (apply DV.seqreg; kernel_rfl; (simp only [wpS, wpT, go1, evS, ev, Qc, Qd, Qg, Qk, Qo, Qs, QB, QJ, nilB, gdS, put1, sv, gs, gb, opd, cst, XW, QK, okS, QL, setAt, bad, dem, QP, QR, QS, QT, QU, QV, QW, QY, QZ, Q2, Q3, Q4, Q5, Q6, lf, lfs, asP, pOk, Xp, Xr, Nat.reduceBEq, XA, XB, keep, kp, cand, cor, List.map, List.append, Option.bind, ↓reduceIte, Nat.reduceEqDiff, Nat.reduceAdd, Nat.reduceMul, Nat.reduceLT, Nat.reduceLeDiff, reduceCtorEq, Int.reduceLT, Int.reduceLE, Int.reduceBEq, Int.reduceBNe, Int.reduceAdd, Int.reduceSub, Int.reduceToNat, dq, tya]; exact rfl); (repeat (with_reducible first | apply qa | apply qb | apply qc | apply qd | apply qe)))
    (apply DV.seqreg; kernel_rfl; (simp only [wpS, wpT, go1, evS, ev, Qc, Qd, Qg, Qk, Qo, Qs, QB, QJ, nilB, gdS, put1, sv, gs, gb, opd, cst, XW, QK, okS, QL, setAt, bad, dem, QP, QR, QS, QT, QU, QV, QW, QY, QZ, Q2, Q3, Q4, Q5, Q6, lf, lfs, asP, pOk, Xp, Xr, Nat.reduceBEq, XA, XB, keep, kp, cand, cor, List.map, List.append, Option.bind, ↓reduceIte, Nat.reduceEqDiff, Nat.reduceAdd, Nat.reduceMul, Nat.reduceLT, Nat.reduceLeDiff, reduceCtorEq, Int.reduceLT, Int.reduceLE, Int.reduceBEq, Int.reduceBNe, Int.reduceAdd, Int.reduceSub, Int.reduceToNat, dq, tya]; exact rfl); (repeat (with_reducible first | apply qa | apply qb | apply qc | apply qd | apply qe)))
    (apply DV.seqreg; kernel_rfl; (simp only [wpS, wpT, go1, evS, ev, Qc, Qd, Qg, Qk, Qo, Qs, QB, QJ, nilB, gdS, put1, sv, gs, gb, opd, cst, XW, QK, okS, QL, setAt, bad, dem, QP, QR, QS, QT, QU, QV, QW, QY, QZ, Q2, Q3, Q4, Q5, Q6, lf, lfs, asP, pOk, Xp, Xr, Nat.reduceBEq, XA, XB, keep, kp, cand, cor, List.map, List.append, Option.bind, ↓reduceIte, Nat.reduceEqDiff, Nat.reduceAdd, Nat.reduceMul, Nat.reduceLT, Nat.reduceLeDiff, reduceCtorEq, Int.reduceLT, Int.reduceLE, Int.reduceBEq, Int.reduceBNe, Int.reduceAdd, Int.reduceSub, Int.reduceToNat, dq, tya, encL_len]; exact rfl); (repeat (with_reducible first | apply qa | apply qb | apply qc | apply qd | apply qe)))
    (apply DV.seqreg; kernel_rfl; (simp only [wpS, wpT, go1, evS, ev, Qc, Qd, Qg, Qk, Qo, Qs, QB, QJ, nilB, gdS, put1, sv, gs, gb, opd, cst, XW, QK, okS, QL, setAt, bad, dem, QP, QR, QS, QT, QU, QV, QW, QY, QZ, Q2, Q3, Q4, Q5, Q6, lf, lfs, asP, pOk, Xp, Xr, Nat.reduceBEq, XA, XB, keep, kp, cand, cor, List.map, List.append, Option.bind, ↓reduceIte, Nat.reduceEqDiff, Nat.reduceAdd, Nat.reduceMul, Nat.reduceLT, Nat.reduceLeDiff, reduceCtorEq, Int.reduceLT, Int.reduceLE, Int.reduceBEq, Int.reduceBNe, Int.reduceAdd, Int.reduceSub, Int.reduceToNat, dq, tya, hb]; exact rfl); (repeat (with_reducible first | apply qa | apply qb | apply qc | apply qd | apply qe)))
    cases b
    · have r0 : ¬ 0 < (vw pl.length lo).r := by have := of_decide_eq_false hb; unfold vw; dsimp only; omega
      rw [if_neg r0] at hR ew2
      rw [hR] at ew2
      (refine DV.condF rfl (fun _ => rfl) ?_; (repeat (with_reducible first | apply qa | apply qb | apply qc | apply qd | apply qe)))
      (refine DV.skip ?_; (repeat (with_reducible refine blockD_norm' ?_)); (with_reducible refine thenD_norm' ?_); (repeat (with_reducible first | apply qa | apply qb | apply qc | apply qd | apply qe)))
      (apply DV.seqreg; kernel_rfl; (simp only [wpS, wpT, go1, evS, ev, Qc, Qd, Qg, Qk, Qo, Qs, QB, QJ, nilB, gdS, put1, sv, gs, gb, opd, cst, XW, QK, okS, QL, setAt, bad, dem, QP, QR, QS, QT, QU, QV, QW, QY, QZ, Q2, Q3, Q4, Q5, Q6, lf, lfs, asP, pOk, Xp, Xr, Nat.reduceBEq, XA, XB, keep, kp, cand, cor, List.map, List.append, Option.bind, ↓reduceIte, Nat.reduceEqDiff, Nat.reduceAdd, Nat.reduceMul, Nat.reduceLT, Nat.reduceLeDiff, reduceCtorEq, Int.reduceLT, Int.reduceLE, Int.reduceBEq, Int.reduceBNe, Int.reduceAdd, Int.reduceSub, Int.reduceToNat, dq, tya, ew2, hR]; exact rfl); (repeat (with_reducible first | apply qa | apply qb | apply qc | apply qd | apply qe)))
      (refine DV.ret ?_; (repeat (first | (with_reducible refine thenD_ret' ?_) | (with_reducible refine blockD_ret' ?_))); (with_reducible refine retD_ret' ?_); (try simp only [resOk, resL, rvS, toR, noMu, wpS, wpT, go1, evS, ev, Qc, Qd, Qg, Qk, Qo, Qs, QB, QJ, nilB, gdS, put1, sv, gs, gb, opd, cst, XW, QK, okS, QL, setAt, bad, dem, QP, QR, QS, QT, QU, QV, QW, QY, QZ, Q2, Q3, Q4, Q5, Q6, lf, lfs, asP, pOk, Xp, Xr, Nat.reduceBEq, XA, XB, keep, kp, cand, cor, List.map, List.append, Option.bind, ↓reduceIte, Nat.reduceEqDiff, Nat.reduceAdd, Nat.reduceMul, Nat.reduceLT, Nat.reduceLeDiff, reduceCtorEq, Int.reduceLT, Int.reduceLE, Int.reduceBEq, Int.reduceBNe, Int.reduceAdd, Int.reduceSub, Int.reduceToNat, dq, tya]))
      try exact hR
    · have r0 : 0 < lo.length := by have := of_decide_eq_true hb; omega
      obtain ⟨x, hx⟩ : ∃ x, lo[lo.length - 1]? = some x := ⟨_, List.getElem?_eq_getElem (by omega)⟩
      have c3 := encL_get (C := lpC) hx
      have ew : IntKind.wrap .i64 ((lo.length : Int) - 1) = ((lo.length - 1 : Nat) : Int) := by rw [IntKind.wrap_i64]; omega
      have c1 : (0 : Int) ≤ ((lo.length - 1 : Nat) : Int) := by omega
      have c2 : ((lo.length - 1 : Nat) : Int) < (lo.length : Int) := by omega
      have hla : lpAt (vw pl.length lo) = x := by unfold lpAt vw; dsimp only; rw [hx]; rfl
      have hgt : (vw pl.length lo).r = lo.length := rfl
      rw [if_pos (by rw [hgt]; exact r0), hla] at hR ew2
      rw [hR] at ew2
      (refine DV.condT rfl (fun _ => rfl) ?_; (repeat (with_reducible first | apply qa | apply qb | apply qc | apply qd | apply qe)))
      (apply DV.reg; kernel_rfl; (simp only [wpS, wpT, go1, evS, ev, Qc, Qd, Qg, Qk, Qo, Qs, QB, QJ, nilB, gdS, put1, sv, gs, gb, opd, cst, XW, QK, okS, QL, setAt, bad, dem, QP, QR, QS, QT, QU, QV, QW, QY, QZ, Q2, Q3, Q4, Q5, Q6, lf, lfs, asP, pOk, Xp, Xr, Nat.reduceBEq, XA, XB, keep, kp, cand, cor, List.map, List.append, Option.bind, ↓reduceIte, Nat.reduceEqDiff, Nat.reduceAdd, Nat.reduceMul, Nat.reduceLT, Nat.reduceLeDiff, reduceCtorEq, Int.reduceLT, Int.reduceLE, Int.reduceBEq, Int.reduceBNe, Int.reduceAdd, Int.reduceSub, Int.reduceToNat, dq, tya, i2n, encL_len, ew, c1, c2, c3, lpE]; exact rfl); (repeat (with_reducible refine blockD_norm' ?_)); (try with_reducible refine thenD_norm' ?_); (repeat (with_reducible first | apply qa | apply qb | apply qc | apply qd | apply qe)))
      (apply DV.seqreg; kernel_rfl; (simp only [wpS, wpT, go1, evS, ev, Qc, Qd, Qg, Qk, Qo, Qs, QB, QJ, nilB, gdS, put1, sv, gs, gb, opd, cst, XW, QK, okS, QL, setAt, bad, dem, QP, QR, QS, QT, QU, QV, QW, QY, QZ, Q2, Q3, Q4, Q5, Q6, lf, lfs, asP, pOk, Xp, Xr, Nat.reduceBEq, XA, XB, keep, kp, cand, cor, List.map, List.append, Option.bind, ↓reduceIte, Nat.reduceEqDiff, Nat.reduceAdd, Nat.reduceMul, Nat.reduceLT, Nat.reduceLeDiff, reduceCtorEq, Int.reduceLT, Int.reduceLE, Int.reduceBEq, Int.reduceBNe, Int.reduceAdd, Int.reduceSub, Int.reduceToNat, dq, tya, ew2, hR]; exact rfl); (repeat (with_reducible first | apply qa | apply qb | apply qc | apply qd | apply qe)))
      (refine DV.ret ?_; (repeat (first | (with_reducible refine thenD_ret' ?_) | (with_reducible refine blockD_ret' ?_))); (with_reducible refine retD_ret' ?_); (try simp only [resOk, resL, rvS, toR, noMu, wpS, wpT, go1, evS, ev, Qc, Qd, Qg, Qk, Qo, Qs, QB, QJ, nilB, gdS, put1, sv, gs, gb, opd, cst, XW, QK, okS, QL, setAt, bad, dem, QP, QR, QS, QT, QU, QV, QW, QY, QZ, Q2, Q3, Q4, Q5, Q6, lf, lfs, asP, pOk, Xp, Xr, Nat.reduceBEq, XA, XB, keep, kp, cand, cor, List.map, List.append, Option.bind, ↓reduceIte, Nat.reduceEqDiff, Nat.reduceAdd, Nat.reduceMul, Nat.reduceLT, Nat.reduceLeDiff, reduceCtorEq, Int.reduceLT, Int.reduceLE, Int.reduceBEq, Int.reduceBNe, Int.reduceAdd, Int.reduceSub, Int.reduceToNat, dq, tya]))
      try exact hR
  · exact h.elim
def bmaD : List S1 → CR × Prop
  | [.ptr [.sl p, .sl b, .sl n, .sl e, .sl pl, .sl lo], .agg s] => (.one (.c (.int .i64 (mayI (vw pl.length (decL lpC lo)) (spC.dec s)))), spC.enc (spC.dec s) = s ∧ isL lpC lo ∧ (decL lpC lo).length ≤ 1000000 ∧ pl.length ≤ 1000000 ∧ 0 ≤ floI (vw pl.length (decL lpC lo)) ∧ floI (vw pl.length (decL lpC lo)) ≤ 1000000)
  | _ => (.one (.c (.bool false)), False)
set_option maxHeartbeats 8000000 in
theorem bma_cal (args : List S1) (h : (bmaD args).2) : Cal Try.prog 118 args (bmaD args).1 := by
  unfold bmaD at h ⊢
  split at h
  · next p0 b0 n0' e0 pl l0 s0 =>
    refine DV.of (Γ := ⟨[(158, bfoD), (159, bfrD), (160, btkD), (78, bhiD)], [], []⟩) (rs := [ResultVar.tmp 4]) [0, 1, 3, 4, 5, 12, 16, 35, 45, 59] ⟨by intro p hp; simp only [List.mem_cons, List.not_mem_nil, or_false] at hp; rcases hp with rfl | rfl | rfl | rfl; exact bfo_cal; exact bfr_cal; exact btk_cal; exact bhi_cal, nofun⟩ (by kernel_rfl) Try.func118 rfl rfl (by kernel_rfl) rfl ?_; (repeat (with_reducible first | apply qa | apply qb | apply qc | apply qd | apply qe))
    obtain ⟨hs, hl, hn, hp, f0, f1⟩ := h
    obtain ⟨lo, rfl⟩ : ∃ v, l0 = encL lpC v := ⟨_, hl.symm⟩
    obtain ⟨s, rfl⟩ : ∃ v, s0 = spC.enc v := ⟨_, hs.symm⟩
    rw [decL_encL] at hn f0 f1 ⊢
    rw [spC.de]
    have hsd : spC.dec [D.int .i64 s.k, D.int .i64 s.nd, D.int .i64 s.a, D.sl (encL isC s.pr)] = s := spC.de s
    obtain ⟨R, hR⟩ : ∃ R, mayI (vw pl.length lo) s = R := ⟨_, rfl⟩
    rw [hR]
    unfold mayI at hR
    obtain ⟨a1, h1⟩ : ∃ b, forB s = b := ⟨_, rfl⟩
    obtain ⟨a2, h2⟩ : ∃ b, (s.k == 2) = b := ⟨_, rfl⟩
    obtain ⟨a3, h3⟩ : ∃ b, (s.k == 3) = b := ⟨_, rfl⟩
    obtain ⟨a4, h4⟩ : ∃ b, decide (0 < (lo.length : Int)) = b := ⟨_, rfl⟩
    obtain ⟨a5, h5⟩ : ∃ b, (s.k == 7) = b := ⟨_, rfl⟩
    obtain ⟨a6, h6⟩ : ∃ b, (s.k == 1) = b := ⟨_, rfl⟩
    obtain ⟨a7, h7⟩ : ∃ b, freB s.nd = b := ⟨_, rfl⟩
    obtain ⟨a8, h8⟩ : ∃ b, (s.k == 6) = b := ⟨_, rfl⟩
    obtain ⟨a9, h9⟩ : ∃ b, decide (s.a < 1) = b := ⟨_, rfl⟩
    obtain ⟨aA, hA⟩ : ∃ b, decide (64 < s.a) = b := ⟨_, rfl⟩
    obtain ⟨aB, hB⟩ : ∃ b, decide (higI (vw pl.length lo) < tksI s) = b := ⟨_, rfl⟩
    have hr : (vw pl.length lo).r = lo.length := rfl
    rw [hr, h1, h2, h3, h4, h5, h6, h7, h8, h9, hA, hB] at hR
    obtain ⟨c2, g2⟩ : ∃ b, ((a2 || a3) && a4) = b := ⟨_, rfl⟩
    obtain ⟨c3, g3⟩ : ∃ b, (a5 && !a4) = b := ⟨_, rfl⟩
    obtain ⟨c4, g4⟩ : ∃ b, (a6 && !a7) = b := ⟨_, rfl⟩
    obtain ⟨c5, g5⟩ : ∃ b, (a8 && (a9 || aA)) = b := ⟨_, rfl⟩
    rw [g2, g3, g4, g5] at hR
    (apply DV.seqreg; kernel_rfl; (simp only [wpS, wpT, go1, evS, ev, Qc, Qd, Qe, Qg, Qh, Qk, Qs, Qu, QB, QE, QF, QJ, nilB, gdS, put1, sv, gs, gb, opd, cst, XW, QK, okS, QL, setAt, bad, dem, QP, QR, QS, QT, QU, QV, QW, QY, QZ, Q2, Q3, Q4, Q5, Q6, Q7, Q8, Q9, Xc, lf, lfs, Xd, Xe, Xg, Xh, Xj, Xk, asP, pOk, Xp, Xr, Xt, Nat.reduceBEq, cv, cvL, wrL, Xw, Xy, XA, XB, keep, kp, cand, cor, List.map, List.append, Option.bind, ↓reduceIte, Nat.reduceEqDiff, Nat.reduceAdd, Nat.reduceMul, Nat.reduceLT, Nat.reduceLeDiff, reduceCtorEq, Int.reduceLT, Int.reduceLE, Int.reduceBEq, Int.reduceBNe, Int.reduceAdd, Int.reduceSub, Int.reduceToNat, dq, tya, bfoD, bfrD, btkD, bhiD, spE]; exact rfl); (repeat (with_reducible first | apply qa | apply qb | apply qc | apply qd | apply qe)))
    (apply DV.seqreg; kernel_rfl; (simp only [wpS, wpT, go1, evS, ev, Qc, Qd, Qe, Qg, Qh, Qk, Qs, Qu, QB, QE, QF, QJ, nilB, gdS, put1, sv, gs, gb, opd, cst, XW, QK, okS, QL, setAt, bad, dem, QP, QR, QS, QT, QU, QV, QW, QY, QZ, Q2, Q3, Q4, Q5, Q6, Q7, Q8, Q9, Xc, lf, lfs, Xd, Xe, Xg, Xh, Xj, Xk, asP, pOk, Xp, Xr, Xt, Nat.reduceBEq, cv, cvL, wrL, Xw, Xy, XA, XB, keep, kp, cand, cor, List.map, List.append, Option.bind, ↓reduceIte, Nat.reduceEqDiff, Nat.reduceAdd, Nat.reduceMul, Nat.reduceLT, Nat.reduceLeDiff, reduceCtorEq, Int.reduceLT, Int.reduceLE, Int.reduceBEq, Int.reduceBNe, Int.reduceAdd, Int.reduceSub, Int.reduceToNat, dq, tya, bfoD, bfrD, btkD, bhiD, encL_len, h4]; exact rfl); (repeat (with_reducible first | apply qa | apply qb | apply qc | apply qd | apply qe)))
    (apply DV.seqreg; kernel_rfl; (simp only [wpS, wpT, go1, evS, ev, Qc, Qd, Qe, Qg, Qh, Qk, Qs, Qu, QB, QE, QF, QJ, nilB, gdS, put1, sv, gs, gb, opd, cst, XW, QK, okS, QL, setAt, bad, dem, QP, QR, QS, QT, QU, QV, QW, QY, QZ, Q2, Q3, Q4, Q5, Q6, Q7, Q8, Q9, Xc, lf, lfs, Xd, Xe, Xg, Xh, Xj, Xk, asP, pOk, Xp, Xr, Xt, Nat.reduceBEq, cv, cvL, wrL, Xw, Xy, XA, XB, keep, kp, cand, cor, List.map, List.append, Option.bind, ↓reduceIte, Nat.reduceEqDiff, Nat.reduceAdd, Nat.reduceMul, Nat.reduceLT, Nat.reduceLeDiff, reduceCtorEq, Int.reduceLT, Int.reduceLE, Int.reduceBEq, Int.reduceBNe, Int.reduceAdd, Int.reduceSub, Int.reduceToNat, dq, tya, bfoD, bfrD, btkD, bhiD, spE, hsd, h1]; exact rfl); (repeat (with_reducible first | apply qa | apply qb | apply qc | apply qd | apply qe)))
    cases a1
    · (refine DV.condT rfl (fun _ => rfl) ?_; (repeat (with_reducible first | apply qa | apply qb | apply qc | apply qd | apply qe)))
      (apply DV.seqreg; kernel_rfl; (simp only [wpS, wpT, go1, evS, ev, Qc, Qd, Qe, Qg, Qh, Qk, Qs, Qu, QB, QE, QF, QJ, nilB, gdS, put1, sv, gs, gb, opd, cst, XW, QK, okS, QL, setAt, bad, dem, QP, QR, QS, QT, QU, QV, QW, QY, QZ, Q2, Q3, Q4, Q5, Q6, Q7, Q8, Q9, Xc, lf, lfs, Xd, Xe, Xg, Xh, Xj, Xk, asP, pOk, Xp, Xr, Xt, Nat.reduceBEq, cv, cvL, wrL, Xw, Xy, XA, XB, keep, kp, cand, cor, List.map, List.append, Option.bind, ↓reduceIte, Nat.reduceEqDiff, Nat.reduceAdd, Nat.reduceMul, Nat.reduceLT, Nat.reduceLeDiff, reduceCtorEq, Int.reduceLT, Int.reduceLE, Int.reduceBEq, Int.reduceBNe, Int.reduceAdd, Int.reduceSub, Int.reduceToNat, dq, tya, bfoD, bfrD, btkD, bhiD]; exact rfl); (repeat (with_reducible first | apply qa | apply qb | apply qc | apply qd | apply qe)))
      (refine DV.ret ?_; (repeat (first | (with_reducible refine thenD_ret' ?_) | (with_reducible refine blockD_ret' ?_))); (with_reducible refine retD_ret' ?_); (try simp only [resOk, resL, rvS, toR, noMu, wpS, wpT, go1, evS, ev, Qc, Qd, Qe, Qg, Qh, Qk, Qs, Qu, QB, QE, QF, QJ, nilB, gdS, put1, sv, gs, gb, opd, cst, XW, QK, okS, QL, setAt, bad, dem, QP, QR, QS, QT, QU, QV, QW, QY, QZ, Q2, Q3, Q4, Q5, Q6, Q7, Q8, Q9, Xc, lf, lfs, Xd, Xe, Xg, Xh, Xj, Xk, asP, pOk, Xp, Xr, Xt, Nat.reduceBEq, cv, cvL, wrL, Xw, Xy, XA, XB, keep, kp, cand, cor, List.map, List.append, Option.bind, ↓reduceIte, Nat.reduceEqDiff, Nat.reduceAdd, Nat.reduceMul, Nat.reduceLT, Nat.reduceLeDiff, reduceCtorEq, Int.reduceLT, Int.reduceLE, Int.reduceBEq, Int.reduceBNe, Int.reduceAdd, Int.reduceSub, Int.reduceToNat, dq, tya, bfoD, bfrD, btkD, bhiD]))
      exact hR
    (refine DV.condF rfl (fun _ => rfl) ?_; (repeat (with_reducible first | apply qa | apply qb | apply qc | apply qd | apply qe)))
    (apply DV.seqreg; kernel_rfl; (simp only [wpS, wpT, go1, evS, ev, Qc, Qd, Qe, Qg, Qh, Qk, Qs, Qu, QB, QE, QF, QJ, nilB, gdS, put1, sv, gs, gb, opd, cst, XW, QK, okS, QL, setAt, bad, dem, QP, QR, QS, QT, QU, QV, QW, QY, QZ, Q2, Q3, Q4, Q5, Q6, Q7, Q8, Q9, Xc, lf, lfs, Xd, Xe, Xg, Xh, Xj, Xk, asP, pOk, Xp, Xr, Xt, Nat.reduceBEq, cv, cvL, wrL, Xw, Xy, XA, XB, keep, kp, cand, cor, List.map, List.append, Option.bind, ↓reduceIte, Nat.reduceEqDiff, Nat.reduceAdd, Nat.reduceMul, Nat.reduceLT, Nat.reduceLeDiff, reduceCtorEq, Int.reduceLT, Int.reduceLE, Int.reduceBEq, Int.reduceBNe, Int.reduceAdd, Int.reduceSub, Int.reduceToNat, dq, tya, bfoD, bfrD, btkD, bhiD, spE, h2, h3, g2]; exact rfl); (repeat (with_reducible first | apply qa | apply qb | apply qc | apply qd | apply qe)))
    cases c2
    rotate_left 1
    · (refine DV.condT rfl (fun _ => rfl) ?_; (repeat (with_reducible first | apply qa | apply qb | apply qc | apply qd | apply qe)))
      (refine DV.skip ?_; (repeat (with_reducible refine blockD_norm' ?_)); (with_reducible refine thenD_norm' ?_); (repeat (with_reducible first | apply qa | apply qb | apply qc | apply qd | apply qe)))
      (refine DV.condT rfl (fun _ => rfl) ?_; (repeat (with_reducible first | apply qa | apply qb | apply qc | apply qd | apply qe)))
      (apply DV.seqreg; kernel_rfl; (simp only [wpS, wpT, go1, evS, ev, Qc, Qd, Qe, Qg, Qh, Qk, Qs, Qu, QB, QE, QF, QJ, nilB, gdS, put1, sv, gs, gb, opd, cst, XW, QK, okS, QL, setAt, bad, dem, QP, QR, QS, QT, QU, QV, QW, QY, QZ, Q2, Q3, Q4, Q5, Q6, Q7, Q8, Q9, Xc, lf, lfs, Xd, Xe, Xg, Xh, Xj, Xk, asP, pOk, Xp, Xr, Xt, Nat.reduceBEq, cv, cvL, wrL, Xw, Xy, XA, XB, keep, kp, cand, cor, List.map, List.append, Option.bind, ↓reduceIte, Nat.reduceEqDiff, Nat.reduceAdd, Nat.reduceMul, Nat.reduceLT, Nat.reduceLeDiff, reduceCtorEq, Int.reduceLT, Int.reduceLE, Int.reduceBEq, Int.reduceBNe, Int.reduceAdd, Int.reduceSub, Int.reduceToNat, dq, tya, bfoD, bfrD, btkD, bhiD]; exact rfl); (repeat (with_reducible first | apply qa | apply qb | apply qc | apply qd | apply qe)))
      (refine DV.ret ?_; (repeat (first | (with_reducible refine thenD_ret' ?_) | (with_reducible refine blockD_ret' ?_))); (with_reducible refine retD_ret' ?_); (try simp only [resOk, resL, rvS, toR, noMu, wpS, wpT, go1, evS, ev, Qc, Qd, Qe, Qg, Qh, Qk, Qs, Qu, QB, QE, QF, QJ, nilB, gdS, put1, sv, gs, gb, opd, cst, XW, QK, okS, QL, setAt, bad, dem, QP, QR, QS, QT, QU, QV, QW, QY, QZ, Q2, Q3, Q4, Q5, Q6, Q7, Q8, Q9, Xc, lf, lfs, Xd, Xe, Xg, Xh, Xj, Xk, asP, pOk, Xp, Xr, Xt, Nat.reduceBEq, cv, cvL, wrL, Xw, Xy, XA, XB, keep, kp, cand, cor, List.map, List.append, Option.bind, ↓reduceIte, Nat.reduceEqDiff, Nat.reduceAdd, Nat.reduceMul, Nat.reduceLT, Nat.reduceLeDiff, reduceCtorEq, Int.reduceLT, Int.reduceLE, Int.reduceBEq, Int.reduceBNe, Int.reduceAdd, Int.reduceSub, Int.reduceToNat, dq, tya, bfoD, bfrD, btkD, bhiD]))
      exact hR
    (refine DV.condF rfl (fun _ => rfl) ?_; (repeat (with_reducible first | apply qa | apply qb | apply qc | apply qd | apply qe)))
    (apply DV.reg; kernel_rfl; (simp only [wpS, wpT, go1, evS, ev, Qc, Qd, Qe, Qg, Qh, Qk, Qs, Qu, QB, QE, QF, QJ, nilB, gdS, put1, sv, gs, gb, opd, cst, XW, QK, okS, QL, setAt, bad, dem, QP, QR, QS, QT, QU, QV, QW, QY, QZ, Q2, Q3, Q4, Q5, Q6, Q7, Q8, Q9, Xc, lf, lfs, Xd, Xe, Xg, Xh, Xj, Xk, asP, pOk, Xp, Xr, Xt, Nat.reduceBEq, cv, cvL, wrL, Xw, Xy, XA, XB, keep, kp, cand, cor, List.map, List.append, Option.bind, ↓reduceIte, Nat.reduceEqDiff, Nat.reduceAdd, Nat.reduceMul, Nat.reduceLT, Nat.reduceLeDiff, reduceCtorEq, Int.reduceLT, Int.reduceLE, Int.reduceBEq, Int.reduceBNe, Int.reduceAdd, Int.reduceSub, Int.reduceToNat, dq, tya, bfoD, bfrD, btkD, bhiD, spE, h5, g3]; exact rfl); (repeat (with_reducible refine blockD_norm' ?_)); (try with_reducible refine thenD_norm' ?_); (repeat (with_reducible first | apply qa | apply qb | apply qc | apply qd | apply qe)))
    cases c3
    rotate_left 1
    · (refine DV.condT rfl (fun _ => rfl) ?_; (repeat (with_reducible first | apply qa | apply qb | apply qc | apply qd | apply qe)))
      (apply DV.seqreg; kernel_rfl; (simp only [wpS, wpT, go1, evS, ev, Qc, Qd, Qe, Qg, Qh, Qk, Qs, Qu, QB, QE, QF, QJ, nilB, gdS, put1, sv, gs, gb, opd, cst, XW, QK, okS, QL, setAt, bad, dem, QP, QR, QS, QT, QU, QV, QW, QY, QZ, Q2, Q3, Q4, Q5, Q6, Q7, Q8, Q9, Xc, lf, lfs, Xd, Xe, Xg, Xh, Xj, Xk, asP, pOk, Xp, Xr, Xt, Nat.reduceBEq, cv, cvL, wrL, Xw, Xy, XA, XB, keep, kp, cand, cor, List.map, List.append, Option.bind, ↓reduceIte, Nat.reduceEqDiff, Nat.reduceAdd, Nat.reduceMul, Nat.reduceLT, Nat.reduceLeDiff, reduceCtorEq, Int.reduceLT, Int.reduceLE, Int.reduceBEq, Int.reduceBNe, Int.reduceAdd, Int.reduceSub, Int.reduceToNat, dq, tya, bfoD, bfrD, btkD, bhiD]; exact rfl); (repeat (with_reducible first | apply qa | apply qb | apply qc | apply qd | apply qe)))
      (refine DV.ret ?_; (repeat (first | (with_reducible refine thenD_ret' ?_) | (with_reducible refine blockD_ret' ?_))); (with_reducible refine retD_ret' ?_); (try simp only [resOk, resL, rvS, toR, noMu, wpS, wpT, go1, evS, ev, Qc, Qd, Qe, Qg, Qh, Qk, Qs, Qu, QB, QE, QF, QJ, nilB, gdS, put1, sv, gs, gb, opd, cst, XW, QK, okS, QL, setAt, bad, dem, QP, QR, QS, QT, QU, QV, QW, QY, QZ, Q2, Q3, Q4, Q5, Q6, Q7, Q8, Q9, Xc, lf, lfs, Xd, Xe, Xg, Xh, Xj, Xk, asP, pOk, Xp, Xr, Xt, Nat.reduceBEq, cv, cvL, wrL, Xw, Xy, XA, XB, keep, kp, cand, cor, List.map, List.append, Option.bind, ↓reduceIte, Nat.reduceEqDiff, Nat.reduceAdd, Nat.reduceMul, Nat.reduceLT, Nat.reduceLeDiff, reduceCtorEq, Int.reduceLT, Int.reduceLE, Int.reduceBEq, Int.reduceBNe, Int.reduceAdd, Int.reduceSub, Int.reduceToNat, dq, tya, bfoD, bfrD, btkD, bhiD]))
      exact hR
    (refine DV.condF rfl (fun _ => rfl) ?_; (repeat (with_reducible first | apply qa | apply qb | apply qc | apply qd | apply qe)))
    (apply DV.seqreg; kernel_rfl; (simp only [wpS, wpT, go1, evS, ev, Qc, Qd, Qe, Qg, Qh, Qk, Qs, Qu, QB, QE, QF, QJ, nilB, gdS, put1, sv, gs, gb, opd, cst, XW, QK, okS, QL, setAt, bad, dem, QP, QR, QS, QT, QU, QV, QW, QY, QZ, Q2, Q3, Q4, Q5, Q6, Q7, Q8, Q9, Xc, lf, lfs, Xd, Xe, Xg, Xh, Xj, Xk, asP, pOk, Xp, Xr, Xt, Nat.reduceBEq, cv, cvL, wrL, Xw, Xy, XA, XB, keep, kp, cand, cor, List.map, List.append, Option.bind, ↓reduceIte, Nat.reduceEqDiff, Nat.reduceAdd, Nat.reduceMul, Nat.reduceLT, Nat.reduceLeDiff, reduceCtorEq, Int.reduceLT, Int.reduceLE, Int.reduceBEq, Int.reduceBNe, Int.reduceAdd, Int.reduceSub, Int.reduceToNat, dq, tya, bfoD, bfrD, btkD, bhiD, spE, h6, h7, g4]; exact rfl); (repeat (with_reducible first | apply qa | apply qb | apply qc | apply qd | apply qe)))
    cases c4
    rotate_left 1
    · (refine DV.condT rfl (fun _ => rfl) ?_; (repeat (with_reducible first | apply qa | apply qb | apply qc | apply qd | apply qe)))
      (apply DV.seqreg; kernel_rfl; (simp only [wpS, wpT, go1, evS, ev, Qc, Qd, Qe, Qg, Qh, Qk, Qs, Qu, QB, QE, QF, QJ, nilB, gdS, put1, sv, gs, gb, opd, cst, XW, QK, okS, QL, setAt, bad, dem, QP, QR, QS, QT, QU, QV, QW, QY, QZ, Q2, Q3, Q4, Q5, Q6, Q7, Q8, Q9, Xc, lf, lfs, Xd, Xe, Xg, Xh, Xj, Xk, asP, pOk, Xp, Xr, Xt, Nat.reduceBEq, cv, cvL, wrL, Xw, Xy, XA, XB, keep, kp, cand, cor, List.map, List.append, Option.bind, ↓reduceIte, Nat.reduceEqDiff, Nat.reduceAdd, Nat.reduceMul, Nat.reduceLT, Nat.reduceLeDiff, reduceCtorEq, Int.reduceLT, Int.reduceLE, Int.reduceBEq, Int.reduceBNe, Int.reduceAdd, Int.reduceSub, Int.reduceToNat, dq, tya, bfoD, bfrD, btkD, bhiD]; exact rfl); (repeat (with_reducible first | apply qa | apply qb | apply qc | apply qd | apply qe)))
      (refine DV.ret ?_; (repeat (first | (with_reducible refine thenD_ret' ?_) | (with_reducible refine blockD_ret' ?_))); (with_reducible refine retD_ret' ?_); (try simp only [resOk, resL, rvS, toR, noMu, wpS, wpT, go1, evS, ev, Qc, Qd, Qe, Qg, Qh, Qk, Qs, Qu, QB, QE, QF, QJ, nilB, gdS, put1, sv, gs, gb, opd, cst, XW, QK, okS, QL, setAt, bad, dem, QP, QR, QS, QT, QU, QV, QW, QY, QZ, Q2, Q3, Q4, Q5, Q6, Q7, Q8, Q9, Xc, lf, lfs, Xd, Xe, Xg, Xh, Xj, Xk, asP, pOk, Xp, Xr, Xt, Nat.reduceBEq, cv, cvL, wrL, Xw, Xy, XA, XB, keep, kp, cand, cor, List.map, List.append, Option.bind, ↓reduceIte, Nat.reduceEqDiff, Nat.reduceAdd, Nat.reduceMul, Nat.reduceLT, Nat.reduceLeDiff, reduceCtorEq, Int.reduceLT, Int.reduceLE, Int.reduceBEq, Int.reduceBNe, Int.reduceAdd, Int.reduceSub, Int.reduceToNat, dq, tya, bfoD, bfrD, btkD, bhiD]))
      exact hR
    (refine DV.condF rfl (fun _ => rfl) ?_; (repeat (with_reducible first | apply qa | apply qb | apply qc | apply qd | apply qe)))
    (apply DV.seqreg; kernel_rfl; (simp only [wpS, wpT, go1, evS, ev, Qc, Qd, Qe, Qg, Qh, Qk, Qs, Qu, QB, QE, QF, QJ, nilB, gdS, put1, sv, gs, gb, opd, cst, XW, QK, okS, QL, setAt, bad, dem, QP, QR, QS, QT, QU, QV, QW, QY, QZ, Q2, Q3, Q4, Q5, Q6, Q7, Q8, Q9, Xc, lf, lfs, Xd, Xe, Xg, Xh, Xj, Xk, asP, pOk, Xp, Xr, Xt, Nat.reduceBEq, cv, cvL, wrL, Xw, Xy, XA, XB, keep, kp, cand, cor, List.map, List.append, Option.bind, ↓reduceIte, Nat.reduceEqDiff, Nat.reduceAdd, Nat.reduceMul, Nat.reduceLT, Nat.reduceLeDiff, reduceCtorEq, Int.reduceLT, Int.reduceLE, Int.reduceBEq, Int.reduceBNe, Int.reduceAdd, Int.reduceSub, Int.reduceToNat, dq, tya, bfoD, bfrD, btkD, bhiD, spE, h8, h9, hA, g5]; exact rfl); (repeat (with_reducible first | apply qa | apply qb | apply qc | apply qd | apply qe)))
    cases c5
    rotate_left 1
    · (refine DV.condT rfl (fun _ => rfl) ?_; (repeat (with_reducible first | apply qa | apply qb | apply qc | apply qd | apply qe)))
      (apply DV.seqreg; kernel_rfl; (simp only [wpS, wpT, go1, evS, ev, Qc, Qd, Qe, Qg, Qh, Qk, Qs, Qu, QB, QE, QF, QJ, nilB, gdS, put1, sv, gs, gb, opd, cst, XW, QK, okS, QL, setAt, bad, dem, QP, QR, QS, QT, QU, QV, QW, QY, QZ, Q2, Q3, Q4, Q5, Q6, Q7, Q8, Q9, Xc, lf, lfs, Xd, Xe, Xg, Xh, Xj, Xk, asP, pOk, Xp, Xr, Xt, Nat.reduceBEq, cv, cvL, wrL, Xw, Xy, XA, XB, keep, kp, cand, cor, List.map, List.append, Option.bind, ↓reduceIte, Nat.reduceEqDiff, Nat.reduceAdd, Nat.reduceMul, Nat.reduceLT, Nat.reduceLeDiff, reduceCtorEq, Int.reduceLT, Int.reduceLE, Int.reduceBEq, Int.reduceBNe, Int.reduceAdd, Int.reduceSub, Int.reduceToNat, dq, tya, bfoD, bfrD, btkD, bhiD]; exact rfl); (repeat (with_reducible first | apply qa | apply qb | apply qc | apply qd | apply qe)))
      (refine DV.ret ?_; (repeat (first | (with_reducible refine thenD_ret' ?_) | (with_reducible refine blockD_ret' ?_))); (with_reducible refine retD_ret' ?_); (try simp only [resOk, resL, rvS, toR, noMu, wpS, wpT, go1, evS, ev, Qc, Qd, Qe, Qg, Qh, Qk, Qs, Qu, QB, QE, QF, QJ, nilB, gdS, put1, sv, gs, gb, opd, cst, XW, QK, okS, QL, setAt, bad, dem, QP, QR, QS, QT, QU, QV, QW, QY, QZ, Q2, Q3, Q4, Q5, Q6, Q7, Q8, Q9, Xc, lf, lfs, Xd, Xe, Xg, Xh, Xj, Xk, asP, pOk, Xp, Xr, Xt, Nat.reduceBEq, cv, cvL, wrL, Xw, Xy, XA, XB, keep, kp, cand, cor, List.map, List.append, Option.bind, ↓reduceIte, Nat.reduceEqDiff, Nat.reduceAdd, Nat.reduceMul, Nat.reduceLT, Nat.reduceLeDiff, reduceCtorEq, Int.reduceLT, Int.reduceLE, Int.reduceBEq, Int.reduceBNe, Int.reduceAdd, Int.reduceSub, Int.reduceToNat, dq, tya, bfoD, bfrD, btkD, bhiD]))
      exact hR
    (refine DV.condF rfl (fun _ => rfl) ?_; (repeat (with_reducible first | apply qa | apply qb | apply qc | apply qd | apply qe)))
    (apply DV.seqdrw; kernel_rfl; kernel_rfl; (simp only [wpS, wpT, go1, evS, ev, Qc, Qd, Qe, Qg, Qh, Qk, Qs, Qu, QB, QE, QF, QJ, nilB, gdS, put1, sv, gs, gb, opd, cst, XW, QK, okS, QL, setAt, bad, dem, QP, QR, QS, QT, QU, QV, QW, QY, QZ, Q2, Q3, Q4, Q5, Q6, Q7, Q8, Q9, Xc, lf, lfs, Xd, Xe, Xg, Xh, Xj, Xk, asP, pOk, Xp, Xr, Xt, Nat.reduceBEq, cv, cvL, wrL, Xw, Xy, XA, XB, keep, kp, cand, cor, List.map, List.append, Option.bind, ↓reduceIte, Nat.reduceEqDiff, Nat.reduceAdd, Nat.reduceMul, Nat.reduceLT, Nat.reduceLeDiff, reduceCtorEq, Int.reduceLT, Int.reduceLE, Int.reduceBEq, Int.reduceBNe, Int.reduceAdd, Int.reduceSub, Int.reduceToNat, dq, tya, bfoD, bfrD, btkD, bhiD, spE, hsd, decL_encL, isL_enc, hn, hp, f0, f1, hB]; exact ⟨rfl, rfl⟩); kernel_rfl; (repeat (with_reducible first | apply qa | apply qb | apply qc | apply qd | apply qe)))
    cases aB
    rotate_left 1
    · (refine DV.condT rfl (fun _ => rfl) ?_; (repeat (with_reducible first | apply qa | apply qb | apply qc | apply qd | apply qe)))
      (apply DV.seqreg; kernel_rfl; (simp only [wpS, wpT, go1, evS, ev, Qc, Qd, Qe, Qg, Qh, Qk, Qs, Qu, QB, QE, QF, QJ, nilB, gdS, put1, sv, gs, gb, opd, cst, XW, QK, okS, QL, setAt, bad, dem, QP, QR, QS, QT, QU, QV, QW, QY, QZ, Q2, Q3, Q4, Q5, Q6, Q7, Q8, Q9, Xc, lf, lfs, Xd, Xe, Xg, Xh, Xj, Xk, asP, pOk, Xp, Xr, Xt, Nat.reduceBEq, cv, cvL, wrL, Xw, Xy, XA, XB, keep, kp, cand, cor, List.map, List.append, Option.bind, ↓reduceIte, Nat.reduceEqDiff, Nat.reduceAdd, Nat.reduceMul, Nat.reduceLT, Nat.reduceLeDiff, reduceCtorEq, Int.reduceLT, Int.reduceLE, Int.reduceBEq, Int.reduceBNe, Int.reduceAdd, Int.reduceSub, Int.reduceToNat, dq, tya, bfoD, bfrD, btkD, bhiD]; exact rfl); (repeat (with_reducible first | apply qa | apply qb | apply qc | apply qd | apply qe)))
      (refine DV.ret ?_; (repeat (first | (with_reducible refine thenD_ret' ?_) | (with_reducible refine blockD_ret' ?_))); (with_reducible refine retD_ret' ?_); (try simp only [resOk, resL, rvS, toR, noMu, wpS, wpT, go1, evS, ev, Qc, Qd, Qe, Qg, Qh, Qk, Qs, Qu, QB, QE, QF, QJ, nilB, gdS, put1, sv, gs, gb, opd, cst, XW, QK, okS, QL, setAt, bad, dem, QP, QR, QS, QT, QU, QV, QW, QY, QZ, Q2, Q3, Q4, Q5, Q6, Q7, Q8, Q9, Xc, lf, lfs, Xd, Xe, Xg, Xh, Xj, Xk, asP, pOk, Xp, Xr, Xt, Nat.reduceBEq, cv, cvL, wrL, Xw, Xy, XA, XB, keep, kp, cand, cor, List.map, List.append, Option.bind, ↓reduceIte, Nat.reduceEqDiff, Nat.reduceAdd, Nat.reduceMul, Nat.reduceLT, Nat.reduceLeDiff, reduceCtorEq, Int.reduceLT, Int.reduceLE, Int.reduceBEq, Int.reduceBNe, Int.reduceAdd, Int.reduceSub, Int.reduceToNat, dq, tya, bfoD, bfrD, btkD, bhiD]))
      exact hR
    (refine DV.condF rfl (fun _ => rfl) ?_; (repeat (with_reducible first | apply qa | apply qb | apply qc | apply qd | apply qe)))
    (refine DV.skip ?_; (repeat (with_reducible refine blockD_norm' ?_)); (with_reducible refine thenD_norm' ?_); (repeat (with_reducible first | apply qa | apply qb | apply qc | apply qd | apply qe)))
    (apply DV.seqreg; kernel_rfl; (simp only [wpS, wpT, go1, evS, ev, Qc, Qd, Qe, Qg, Qh, Qk, Qs, Qu, QB, QE, QF, QJ, nilB, gdS, put1, sv, gs, gb, opd, cst, XW, QK, okS, QL, setAt, bad, dem, QP, QR, QS, QT, QU, QV, QW, QY, QZ, Q2, Q3, Q4, Q5, Q6, Q7, Q8, Q9, Xc, lf, lfs, Xd, Xe, Xg, Xh, Xj, Xk, asP, pOk, Xp, Xr, Xt, Nat.reduceBEq, cv, cvL, wrL, Xw, Xy, XA, XB, keep, kp, cand, cor, List.map, List.append, Option.bind, ↓reduceIte, Nat.reduceEqDiff, Nat.reduceAdd, Nat.reduceMul, Nat.reduceLT, Nat.reduceLeDiff, reduceCtorEq, Int.reduceLT, Int.reduceLE, Int.reduceBEq, Int.reduceBNe, Int.reduceAdd, Int.reduceSub, Int.reduceToNat, dq, tya, bfoD, bfrD, btkD, bhiD]; exact rfl); (repeat (with_reducible first | apply qa | apply qb | apply qc | apply qd | apply qe)))
    (refine DV.ret ?_; (repeat (first | (with_reducible refine thenD_ret' ?_) | (with_reducible refine blockD_ret' ?_))); (with_reducible refine retD_ret' ?_); (try simp only [resOk, resL, rvS, toR, noMu, wpS, wpT, go1, evS, ev, Qc, Qd, Qe, Qg, Qh, Qk, Qs, Qu, QB, QE, QF, QJ, nilB, gdS, put1, sv, gs, gb, opd, cst, XW, QK, okS, QL, setAt, bad, dem, QP, QR, QS, QT, QU, QV, QW, QY, QZ, Q2, Q3, Q4, Q5, Q6, Q7, Q8, Q9, Xc, lf, lfs, Xd, Xe, Xg, Xh, Xj, Xk, asP, pOk, Xp, Xr, Xt, Nat.reduceBEq, cv, cvL, wrL, Xw, Xy, XA, XB, keep, kp, cand, cor, List.map, List.append, Option.bind, ↓reduceIte, Nat.reduceEqDiff, Nat.reduceAdd, Nat.reduceMul, Nat.reduceLT, Nat.reduceLeDiff, reduceCtorEq, Int.reduceLT, Int.reduceLE, Int.reduceBEq, Int.reduceBNe, Int.reduceAdd, Int.reduceSub, Int.reduceToNat, dq, tya, bfoD, bfrD, btkD, bhiD]))
    exact hR
  · exact h.elim
def bclD : List S1 → CR × Prop
  | [.c (.sl l)] => (.one (.c (.sl l)), allK 2 l ∧ lfL l ∧ l.length ≤ 1073741823)
  | _ => (.one (.c (.bool false)), False)
theorem bcl_cal (args : List S1) (h : (bclD args).2) : Cal Try.prog 188 args (bclD args).1 := by
  unfold bclD at h ⊢
  split at h
  · next l =>
    obtain ⟨hk, hl, hn⟩ := h
    have q1 := Lib.hid (capOk_of (n := l.length) (Nat.le_trans hn (by decide)))
    have q2 := Lib.hid (capB (n := l.length) (k := 16) (Nat.le_trans hn (by decide)) (by decide))
    refine Cal.sn fun b hb => ?_
    refine DV.of (Γ := ⟨[], [], []⟩) (rs := [ResultVar.tmp 2]) [0, 2, 4] ⟨nofun, nofun⟩ (by kernel_rfl) Try.func188 rfl rfl (by kernel_rfl) rfl ?_; (repeat (with_reducible first | apply qa | apply qb | apply qc | apply qd | apply qe))
    (apply DV.seqreg; kernel_rfl; (simp only [wpS, wpT, go1, evS, ev, Qc, Qd, Qg, Qy, QB, QD, nilB, gdS, put1, sv, gs, gb, opd, cst, XW, QK, okS, QL, setAt, QM, QN, bad, dem, QP, QR, QS, QT, QU, QV, QW, QY, QZ, Q2, Q3, Q4, Q5, Q6, lf, lfs, Xm, Xo, asP, pOk, Xp, Xv, Nat.reduceBEq, Xz, XA, XB, keep, kp, cand, cor, List.map, List.append, Option.bind, ↓reduceIte, Nat.reduceEqDiff, Nat.reduceAdd, Nat.reduceMul, Nat.reduceLT, Nat.reduceLeDiff, reduceCtorEq, Int.reduceLT, Int.reduceLE, Int.reduceBEq, Int.reduceBNe, Int.reduceAdd, Int.reduceSub, Int.reduceToNat, dq, tya]; exact rfl); (repeat (with_reducible first | apply qa | apply qb | apply qc | apply qd | apply qe)))
    (apply DV.seqreg; kernel_rfl; (simp only [wpS, wpT, go1, evS, ev, Qc, Qd, Qg, Qy, QB, QD, nilB, gdS, put1, sv, gs, gb, opd, cst, XW, QK, okS, QL, setAt, QM, QN, bad, dem, QP, QR, QS, QT, QU, QV, QW, QY, QZ, Q2, Q3, Q4, Q5, Q6, lf, lfs, Xm, Xo, asP, pOk, Xp, Xv, Nat.reduceBEq, Xz, XA, XB, keep, kp, cand, cor, List.map, List.append, Option.bind, ↓reduceIte, Nat.reduceEqDiff, Nat.reduceAdd, Nat.reduceMul, Nat.reduceLT, Nat.reduceLeDiff, reduceCtorEq, Int.reduceLT, Int.reduceLE, Int.reduceBEq, Int.reduceBNe, Int.reduceAdd, Int.reduceSub, Int.reduceToNat, dq, tya]; exact rfl); (repeat (with_reducible first | apply qa | apply qb | apply qc | apply qd | apply qe)))
    cases b
    · (refine DV.condF rfl (fun _ => rfl) ?_; (repeat (with_reducible first | apply qa | apply qb | apply qc | apply qd | apply qe)))
      (refine DV.skip ?_; (repeat (with_reducible refine blockD_norm' ?_)); (with_reducible refine thenD_norm' ?_); (repeat (with_reducible first | apply qa | apply qb | apply qc | apply qd | apply qe)))
      (apply DV.seqreg; kernel_rfl; (simp only [wpS, wpT, go1, evS, ev, Qc, Qd, Qg, Qy, QB, QD, nilB, gdS, put1, sv, gs, gb, opd, cst, XW, QK, okS, QL, setAt, QM, QN, bad, dem, QP, QR, QS, QT, QU, QV, QW, QY, QZ, Q2, Q3, Q4, Q5, Q6, lf, lfs, Xm, Xo, asP, pOk, Xp, Xv, Nat.reduceBEq, Xz, XA, XB, keep, kp, cand, cor, List.map, List.append, Option.bind, ↓reduceIte, Nat.reduceEqDiff, Nat.reduceAdd, Nat.reduceMul, Nat.reduceLT, Nat.reduceLeDiff, reduceCtorEq, Int.reduceLT, Int.reduceLE, Int.reduceBEq, Int.reduceBNe, Int.reduceAdd, Int.reduceSub, Int.reduceToNat, dq, tya, range0, hk, q1.out, q2.out]; exact rfl); (repeat (with_reducible first | apply qa | apply qb | apply qc | apply qd | apply qe)))
      (refine DV.ret ?_; (repeat (first | (with_reducible refine thenD_ret' ?_) | (with_reducible refine blockD_ret' ?_))); (with_reducible refine retD_ret' ?_); (try simp only [resOk, resL, rvS, toR, noMu, wpS, wpT, go1, evS, ev, Qc, Qd, Qg, Qy, QB, QD, nilB, gdS, put1, sv, gs, gb, opd, cst, XW, QK, okS, QL, setAt, QM, QN, bad, dem, QP, QR, QS, QT, QU, QV, QW, QY, QZ, Q2, Q3, Q4, Q5, Q6, lf, lfs, Xm, Xo, asP, pOk, Xp, Xv, Nat.reduceBEq, Xz, XA, XB, keep, kp, cand, cor, List.map, List.append, Option.bind, ↓reduceIte, Nat.reduceEqDiff, Nat.reduceAdd, Nat.reduceMul, Nat.reduceLT, Nat.reduceLeDiff, reduceCtorEq, Int.reduceLT, Int.reduceLE, Int.reduceBEq, Int.reduceBNe, Int.reduceAdd, Int.reduceSub, Int.reduceToNat, dq, tya, List.take_length, Nat.le_refl, hl]))
    · obtain rfl := hb rfl
      (refine DV.condT rfl (fun _ => rfl) ?_; (repeat (with_reducible first | apply qa | apply qb | apply qc | apply qd | apply qe)))
      (apply DV.seqreg; kernel_rfl; (simp only [wpS, wpT, go1, evS, ev, Qc, Qd, Qg, Qy, QB, QD, nilB, gdS, put1, sv, gs, gb, opd, cst, XW, QK, okS, QL, setAt, QM, QN, bad, dem, QP, QR, QS, QT, QU, QV, QW, QY, QZ, Q2, Q3, Q4, Q5, Q6, lf, lfs, Xm, Xo, asP, pOk, Xp, Xv, Nat.reduceBEq, Xz, XA, XB, keep, kp, cand, cor, List.map, List.append, Option.bind, ↓reduceIte, Nat.reduceEqDiff, Nat.reduceAdd, Nat.reduceMul, Nat.reduceLT, Nat.reduceLeDiff, reduceCtorEq, Int.reduceLT, Int.reduceLE, Int.reduceBEq, Int.reduceBNe, Int.reduceAdd, Int.reduceSub, Int.reduceToNat, dq, tya]; exact rfl); (repeat (with_reducible first | apply qa | apply qb | apply qc | apply qd | apply qe)))
      (refine DV.ret ?_; (repeat (first | (with_reducible refine thenD_ret' ?_) | (with_reducible refine blockD_ret' ?_))); (with_reducible refine retD_ret' ?_); (try simp only [resOk, resL, rvS, toR, noMu, wpS, wpT, go1, evS, ev, Qc, Qd, Qg, Qy, QB, QD, nilB, gdS, put1, sv, gs, gb, opd, cst, XW, QK, okS, QL, setAt, QM, QN, bad, dem, QP, QR, QS, QT, QU, QV, QW, QY, QZ, Q2, Q3, Q4, Q5, Q6, lf, lfs, Xm, Xo, asP, pOk, Xp, Xv, Nat.reduceBEq, Xz, XA, XB, keep, kp, cand, cor, List.map, List.append, Option.bind, ↓reduceIte, Nat.reduceEqDiff, Nat.reduceAdd, Nat.reduceMul, Nat.reduceLT, Nat.reduceLeDiff, reduceCtorEq, Int.reduceLT, Int.reduceLE, Int.reduceBEq, Int.reduceBNe, Int.reduceAdd, Int.reduceSub, Int.reduceToNat, dq, tya]))
  · exact h.elim
end Go.Proofs.Ytkmgdejpdhlleaa.Dq
